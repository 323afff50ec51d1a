/-
  The program's Encode.
-/
import Derived.Test.YtpggicaphejjfaaPEnc
import Derived.Test.YtpggicaphejjfaaPRef
set_option linter.unusedVariables false
namespace Go.Proofs.Ytpggicaphejjfaa
open Go.RowKit

theorem isBuilder_fresh (w : World) {B : Nat} (hB : B ≤ w.heap.size) : Lib.IsBuilder 56 5 B w.heap.size (Lib.byteCells []) (w.alloc (.cells #[.pointer none, .slice none 0 0] 56)) := by
  refine .inl ⟨hB, .slice none 0 0, heap_alloc_new w _, ⟨rfl, .inl ⟨rfl, rfl⟩⟩, ?_⟩
  simp [Value.ownBlock]
/-- it may stand in a block of so many bytes -/
def EncP (n : Nd) (m : Int) : Prop := SizeP m ∧ CheckN n m.toNat

set_option maxRecDepth 100000 in
set_option maxHeartbeats 2000000 in
theorem encode_no (n : Nd) (A1 A2 A3 : Option Addr) (c1 c2 c3 : Nat) (m : Int) (w : World) (h : NdR w n A1 A2 A3) (hn : ¬ EncP n m) :
    Calls Try.prog 9 #[.agg (ndC n A1 A2 A3 c1 c2 c3), .int .i64 m] w fun e w' => e = .returned (.tuple #[.string ⟨#[]⟩, .int .i64 1]) ∧ Below w.heap.size w w' := by
  obtain ⟨w1, hw1⟩ : ∃ w1, w1 = w.alloc (.cells (ndC n A1 A2 A3 c1 c2 c3) 26) := ⟨_, rfl⟩
  have hB1 : Below w.heap.size w w1 := by rw [hw1]; exact (Below.refl _ w).alloc (Nat.le_refl _) _
  have hck : Calls Try.prog 15 #[.agg (ndC n A1 A2 A3 c1 c2 c3), .int .i64 m] w1 fun e w' => e = .returned (.int .i64 1) ∧ Below w1.heap.size w1 w' := by
    by_cases hs : SizeP m
    · obtain ⟨k, rfl, h1, h2, h3⟩ := hs.nat
      have hc : ¬ CheckN n k := fun hc => hn ⟨hs, hc⟩
      exact check_yes n A1 A2 A3 c1 c2 c3 k false w1 (h.below hB1) h1 h2 h3 (by simp [hc])
    · exact check_no n A1 A2 A3 c1 c2 c3 m w1 hs
  have HM := Lib.hid (And.intro hck hB1)
  have hbx := Blk.new w 26 (ndC n A1 A2 A3 c1 c2 c3)
  obtain ⟨bx, hbxe⟩ : ∃ bx, bx = w.heap.size := ⟨_, rfl⟩
  rw [← hw1, ← hbxe] at hbx
  obtain ⟨N1, hN1⟩ : ∃ N, N = n.keys.length := ⟨_, rfl⟩
  obtain ⟨N2, hN2⟩ : ∃ N, N = n.vals.length := ⟨_, rfl⟩
  obtain ⟨N3, hN3⟩ : ∃ N, N = n.kids.length := ⟨_, rfl⟩
  obtain ⟨lf, hlf⟩ : ∃ b, b = n.leaf := ⟨_, rfl⟩
  unfold ndC at *
  rw [← hN1, ← hN2, ← hN3, ← hlf] at hw1 HM hbx ⊢
  have HW := Lib.hid (And.intro hw1 hbxe)
  have x0 := hbx.cell 0
  have x1 := hbx.cell 1
  have x2 := hbx.cell 2
  have x3 := hbx.cell 3
  simp at x0 x1 x2 x3
  clear h hn hB1 hck hN1 hN2 hN3 hlf hw1 hbx hbxe
  go_enter Try.func9, Try.ntmps9
  go_upto_region 1 with fail
  rw [← HW.out.1, ← HW.out.2]
  go_wp2_with fail
  refine HM.out.1.mono ?_
  rintro e w2 ⟨rfl, hb⟩
  have H2 := Lib.hid (below_step HM.out.2 hb)
  clear hb
  go_wp2_with fail
  go_ret2
  exact ⟨rfl, H2.out⟩
theorem isBuilder_below {B b : Nat} {bs : List Value} {u u' : World} (h : Lib.IsBuilder 56 5 B b bs u) (hb : Below u.heap.size u u') : Lib.IsBuilder 56 5 B b bs u' := by
  have key : ∀ p, Lib.BuilderAt 56 5 B b p bs u → Lib.BuilderAt 56 5 B b p bs u' := by
    rintro p ⟨h1, v, h2, h3, h4⟩
    have hbk : Blk u b 56 #[p, v] := h2
    exact ⟨h1, v, (hb.block b hbk.lt).trans h2, own_only h3 (Only.of_below (F := fun _ => False) hb) (fun _ _ f => f), h4⟩
  rcases h with h | h
  · exact .inl (key _ h)
  · exact .inr (key _ h)
/-- what the walk keeps -/
def EncI (w1 : World) (B gb : Nat) (l : List UInt8) (u : World) : Prop := Below B w1 u ∧ Lib.IsBuilder 56 5 B gb (Lib.byteCells l) u
theorem headN_leaf {n : Nd} (h : n.leaf = true) : ([] ++ be 1 1) ++ be 2 n.keys.length = headN n := by
  unfold headN
  simp only [h, if_true]
  rfl
theorem headN_branch {n : Nd} (h : n.leaf = false) : (([] ++ be 1 2) ++ be 2 n.keys.length) ++ be 4 (n.kids.getD 0 0) = headN n := by
  unfold headN
  simp only [h, Bool.false_eq_true, if_false]
  rfl
theorem data_append (x y : ByteArray) : (x ++ y).data.toList = x.data.toList ++ y.data.toList := by
  rw [ByteArray.data_append]
  simp
theorem encN_last (n : Nd) (m : Nat) : (⟨(bodyN n ++ Lib.repeatL [0] (m - (bodyN n).length)).toArray⟩ : ByteArray) = encS n m := by
  unfold encS encN
  have := Lib.repeatL_replicate 0 1 (m - (bodyN n).length)
  rw [Nat.mul_one] at this
  rw [show ([0] : List UInt8) = List.replicate 1 0 from rfl, this]
theorem szs_ge (l : List ByteArray) (b : Nat) : ∀ k, b * k ≤ szs l b k
  | 0 => Nat.le_refl _
  | k + 1 => by
    have := szs_ge l b k
    show _ ≤ szs l b k + ((l.getD k ⟨#[]⟩).size + b)
    rw [Nat.mul_succ]
    omega

set_option maxRecDepth 100000 in
set_option maxHeartbeats 4000000 in
theorem encode_leaf (n : Nd) (A1 A2 A3 : Option Addr) (c1 c2 c3 m : Nat) (w : World) (h : NdR w n A1 A2 A3) (m1 : 512 ≤ m) (m2 : m ≤ 4096) (m3 : m % 512 = 0) (hn : CheckN n m) (hlf : n.leaf = true) :
    Calls Try.prog 9 #[.agg (ndC n A1 A2 A3 c1 c2 c3), .int .i64 m] w fun e w' => e = .returned (.tuple #[.string (encS n m), .int .i64 0]) ∧ Below w.heap.size w w' := by
  obtain ⟨w1, hw1⟩ : ∃ w1, w1 = w.alloc (.cells (ndC n A1 A2 A3 c1 c2 c3) 26) := ⟨_, rfl⟩
  have hB1 : Below w.heap.size w w1 := by rw [hw1]; exact (Below.refl _ w).alloc (Nat.le_refl _) _
  have h' := h.below hB1
  have hck := check_yes n A1 A2 A3 c1 c2 c3 m true w1 h' m1 m2 m3 (by simp [hn])
  have hbx := Blk.new w 26 (ndC n A1 A2 A3 c1 c2 c3)
  obtain ⟨bx, hbxe⟩ : ∃ bx, bx = w.heap.size := ⟨_, rfl⟩
  obtain ⟨B, hBe⟩ : ∃ B, B = w1.heap.size := ⟨_, rfl⟩
  rw [← hw1, ← hbxe] at hbx
  have hBw : B = w.heap.size + 1 := by rw [hBe, hw1]; simp
  have hbody := length_bodyN hn
  have hbm := hn.1.2
  have hlen : Hid (∀ j, j ≤ n.keys.length → (headN n ++ entsN n j).length ≤ 4096) := fun j hj => by
    have h1 := entsN_le n hj
    have h2 : (bodyN n).length = (headN n ++ entsN n n.keys.length).length := rfl
    rw [List.length_append] at h2 ⊢
    omega
  have hkey : Hid (∀ i, i < n.keys.length → (n.keys.getD i ⟨#[]⟩).size ≤ 64) := fun i hi => (hn.1.1 i hi).2.1
  have hvl : Hid (n.vals.length = n.keys.length) := (hn.2.1 hlf).1
  have hval : Hid (∀ i, i < n.keys.length → (n.vals.getD i ⟨#[]⟩).size ≤ 4095) := fun i hi => ((hn.2.1 hlf).2.2 i (by have := hvl.out; omega)).1
  have hk64 : n.keys.length ≤ 4096 := by
    have h1 := szs_ge n.keys 3 n.keys.length
    have h2 : bytesN n = 3 + szs n.keys 3 n.keys.length + szs n.vals 0 n.vals.length := by unfold bytesN; rw [hlf]; rfl
    have := hn.2.1 hlf
    unfold LeafP at this
    omega
  obtain ⟨N1, hN1⟩ : ∃ N, N = n.keys.length := ⟨_, rfl⟩
  obtain ⟨N2, hN2⟩ : ∃ N, N = n.vals.length := ⟨_, rfl⟩
  obtain ⟨N3, hN3⟩ : ∃ N, N = n.kids.length := ⟨_, rfl⟩
  obtain ⟨L, hL⟩ : ∃ L, L = (bodyN n).length := ⟨_, rfl⟩
  obtain ⟨d, hd⟩ : ∃ d, d = m - L := ⟨_, rfl⟩
  have hd1 : (m : Int) - (L : Int) = (d : Int) := by omega
  have hd2 : d ≤ 4096 := by omega
  have hL2 : L ≤ 4096 := by omega
  have HR := Lib.hid (And.intro h' (And.intro hB1 (And.intro hBw (And.intro hL (And.intro hd hlf)))))
  have HCK : Hid (Calls Try.prog 15 #[.agg (ndC n A1 A2 A3 c1 c2 c3), .int .i64 m] w1 fun e w' => e = .returned (.int .i64 0) ∧ Below w1.heap.size w1 w') := hck
  unfold ndC at *
  rw [← hN1, ← hN2, ← hN3, hlf] at hw1 HCK hbx ⊢
  rw [← hN1] at hk64
  have HN := Lib.hid (And.intro hN1 (And.intro hN2 hN3))
  have HW := Lib.hid (And.intro hw1 hbxe)
  have HX : Hid (∀ u, Below B w1 u → u.cell? ⟨bx, 0, none⟩ = some (.bool true) ∧ u.cell? ⟨bx, 1, none⟩ = some (.slice A1 N1 c1) ∧ u.cell? ⟨bx, 2, none⟩ = some (.slice A2 N2 c2) ∧ u.cell? ⟨bx, 3, none⟩ = some (.slice A3 N3 c3)) := fun u hu => by
    have hk := hbx.below hu (by omega)
    exact ⟨hk.cell 0, hk.cell 1, hk.cell 2, hk.cell 3⟩
  have HRd : Hid (∀ u, Below B w1 u → NdR u n A1 A2 A3) := fun u hu => by rw [hBe] at hu; exact h'.below hu
  have HBe := Lib.hid hBe
  obtain ⟨x0, x1, x2, x3⟩ := HX.out w1 (Below.refl _ _)
  clear h hn hB1 hck hN1 hN2 hN3 hw1 hbx hbxe h' hBw hbody hbm hL hd hlf hBe
  go_enter Try.func9, Try.ntmps9
  go_upto_region 1 with fail
  rw [← HW.out.1, ← HW.out.2]
  go_wp2_with fail
  refine HCK.out.mono ?_
  rintro e w2 ⟨rfl, hb⟩
  have hb2 : Below B w1 w2 := by rw [HBe.out]; exact hb
  have hbs : B ≤ w2.heap.size := by rw [HBe.out]; exact hb.size
  obtain ⟨w3, hw3⟩ : ∃ w3, w3 = w2.alloc (.cells #[.pointer none, .slice none 0 0] 56) := ⟨_, rfl⟩
  obtain ⟨gb, hgb⟩ : ∃ gb, gb = w2.heap.size := ⟨_, rfl⟩
  have hI3 : EncI w1 B gb [] w3 := ⟨by rw [hw3]; exact hb2.alloc hbs _, by rw [hw3, hgb]; exact isBuilder_fresh w2 hbs⟩
  have HW3 := Lib.hid (And.intro hw3 hgb)
  have H3 := Lib.hid hI3
  clear hb hb2 hbs hw3 hgb hI3 x0 x1 x2 x3
  have HS : Hid (∀ u l, EncI w1 B gb l u → B ≤ u.heap.size) := fun u l hu => by rw [HBe.out]; exact hu.1.size
  have HP1 : Hid (∀ (u : World) (l : List UInt8) (v : Nat), EncI w1 B gb l u → v < 4294967296 → l.length + 4 ≤ 1000000 → Calls Try.prog 27 #[.int .i64 v, .int .i64 1, .pointer (some ⟨gb, 0, none⟩)] u fun e w' => e = .returned (.tuple #[]) ∧ EncI w1 B gb (l ++ be 1 v) w') := fun u l v hu hv hl =>
    (put1_b l v u hu.2 hv (HS.out u l hu) hl).mono fun e u' ⟨h1, h2, h3⟩ => ⟨h1, hu.1.trans h3, h2⟩
  have HP2 : Hid (∀ (u : World) (l : List UInt8) (v : Nat), EncI w1 B gb l u → v < 4294967296 → l.length + 4 ≤ 1000000 → Calls Try.prog 27 #[.int .i64 v, .int .i64 2, .pointer (some ⟨gb, 0, none⟩)] u fun e w' => e = .returned (.tuple #[]) ∧ EncI w1 B gb (l ++ be 2 v) w') := fun u l v hu hv hl =>
    (put2_b l v u hu.2 hv (HS.out u l hu) hl).mono fun e u' ⟨h1, h2, h3⟩ => ⟨h1, hu.1.trans h3, h2⟩
  have HP4 : Hid (∀ (u : World) (l : List UInt8) (v : Nat), EncI w1 B gb l u → v < 4294967296 → l.length + 4 ≤ 1000000 → Calls Try.prog 27 #[.int .i64 v, .int .i64 4, .pointer (some ⟨gb, 0, none⟩)] u fun e w' => e = .returned (.tuple #[]) ∧ EncI w1 B gb (l ++ be 4 v) w') := fun u l v hu hv hl =>
    (put4_b l v u hu.2 hv (HS.out u l hu) hl).mono fun e u' ⟨h1, h2, h3⟩ => ⟨h1, hu.1.trans h3, h2⟩
  have HPS : Hid (∀ (u : World) (l : List UInt8) (s : ByteArray), EncI w1 B gb l u → l.length + s.size ≤ 1000000 → Calls Try.prog 29 #[.pointer (some ⟨gb, 0, none⟩), .string s] u fun e w' => (∃ v, e = .returned v) ∧ EncI w1 B gb (l ++ s.data.toList) w') := fun u l s hu hl =>
    (writeS_b l s u hu.2 (HS.out u l hu) hl).mono fun e u' ⟨h1, h2, h3⟩ => ⟨h1, hu.1.trans h3, h2⟩
  have y0 := (HX.out w3 H3.out.1).1
  go_upto_region 5 with fail
  rw [← HW3.out.1, ← HW3.out.2]
  go_wp2_with fail
  refine (HP1.out w3 [] 1 H3.out (by decide) (by decide)).mono ?_
  rintro e w4 ⟨rfl, hI⟩
  have H4 := Lib.hid hI
  clear hI y0
  have y1 := (HX.out w4 H4.out.1).2.1
  have hN1b : N1 < 4294967296 := by omega
  go_wp2_with fail
  refine (HP2.out w4 _ N1 H4.out hN1b (by decide)).mono ?_
  rintro e w5 ⟨rfl, hI⟩
  have H5 := Lib.hid hI
  clear hI y1
  obtain ⟨y0, y1, y2, y3⟩ := HX.out w5 H5.out.1
  have H6 : Hid (EncI w1 B gb (headN n) w5) := by
    have := H5.out
    rw [HN.out.1, headN_leaf HR.out.2.2.2.2.2] at this
    exact this
  go_wp2_with fail
  go_loopg [42] N1 (fun g i wr => ∃ k : Nat, k + g = N1 ∧ i = .int .i64 k ∧ EncI w1 B gb (headN n ++ entsN n k) wr)
  case atStart => exact ⟨0, by omega, rfl, by rw [show headN n ++ entsN n 0 = headN n from List.append_nil _]; exact H6.out⟩
  case round =>
    clear y0 y1 y2 y3
    obtain ⟨k, hk, rfl, hI⟩ := hrel
    have HI := Lib.hid hI
    clear hI
    by_cases hlt : k < N1
    · have HL := hlen.out k (by rw [← HN.out.1]; omega)
      have HKE := hkey.out k (by rw [← HN.out.1]; omega)
      obtain ⟨b, off, rfl, _, hcl⟩ := (HRd.out wr HI.out.1).k (by rw [← HN.out.1]; omega)
      have hcell := hcl k (by rw [← HN.out.1]; exact hlt)
      have HVE := hval.out k (by rw [← HN.out.1]; omega)
      obtain ⟨b2, off2, rfl, _, hcl2⟩ := (HRd.out wr HI.out.1).v (by rw [hvl.out, ← HN.out.1]; omega)
      have hcell2 := hcl2 k (by rw [hvl.out, ← HN.out.1]; exact hlt)
      have HC2 : Hid (∀ u, Below B w1 u → u.cell? ⟨b2, off2 + k, none⟩ = some (.string (n.vals.getD k ⟨#[]⟩))) := fun u hu => by
        obtain ⟨b3, off3, e, _, hcl3⟩ := (HRd.out u hu).v (by rw [hvl.out, ← HN.out.1]; omega)
        injection e with e
        injection e with e1 e2
        subst e1 e2
        exact hcl3 k (by rw [hvl.out, ← HN.out.1]; exact hlt)
      have hent : entsN n (k + 1) = entsN n k ++ (be 1 (n.keys.getD k ⟨#[]⟩).size ++ (be 2 (n.vals.getD k ⟨#[]⟩).size ++ ((n.keys.getD k ⟨#[]⟩).data.toList ++ (n.vals.getD k ⟨#[]⟩).data.toList))) := by
        show entsN n k ++ entN n k = _
        unfold entN
        rw [HR.out.2.2.2.2.2]
        rfl
      obtain ⟨x, hx⟩ : ∃ x, x = n.keys.getD k ⟨#[]⟩ := ⟨_, rfl⟩
      obtain ⟨y, hy⟩ : ∃ y, y = n.vals.getD k ⟨#[]⟩ := ⟨_, rfl⟩
      rw [← hx] at hcell HKE hent
      rw [← hy] at hcell2 HVE HC2 hent
      obtain ⟨z, hz⟩ : ∃ z, z = x.size := ⟨_, rfl⟩
      obtain ⟨q, hq⟩ : ∃ q, q = y.size := ⟨_, rfl⟩
      have hz' : x.size = z := hz.symm
      have hq' : y.size = q := hq.symm
      rw [hz'] at HKE hent
      rw [hq'] at HVE hent
      have HE := Lib.hid hent
      have hN2e : k < N2 := by have := hvl.out; have h2 := HN.out; omega
      obtain ⟨l, hl⟩ : ∃ l, l = headN n ++ entsN n k := ⟨_, rfl⟩
      have hII := HI.out
      rw [← hl] at hII HL
      have HI2 := Lib.hid hII
      have HL2 := Lib.hid hl
      clear hx hy hz hq hent hl hII hcl hcl2 hcell2
      go_wp2_with fail
      refine (HP1.out wr l z HI2.out (by omega) (by omega)).mono ?_
      rintro e w7 ⟨rfl, hI⟩
      have H7 := Lib.hid hI
      clear hI hcell
      obtain ⟨y0, y1, y2, y3⟩ := HX.out w7 H7.out.1
      have hcell2 := HC2.out w7 H7.out.1
      clear y1 y3
      go_wp2_with fail
      refine (HP2.out w7 _ q H7.out (by omega) (by rw [List.length_append, length_be]; omega)).mono ?_
      rintro e w8 ⟨rfl, hI⟩
      have H8 := Lib.hid hI
      clear hI hcell2 y0 y2
      obtain ⟨y0, y1, y2, y3⟩ := HX.out w8 H8.out.1
      have hcell2 := HC2.out w8 H8.out.1
      clear y1 y3 y0
      go_wp2_with fail
      refine (HPS.out w8 _ (x ++ y) H8.out (by rw [List.length_append, List.length_append, length_be, length_be, ByteArray.size_append]; omega)).mono ?_
      rintro e w9 ⟨⟨rv, rfl⟩, hI⟩
      have H9 := Lib.hid hI
      clear hI hcell2 y2
      go_wp2_with fail
      go_roundg (gk - 1)
      case measure => omega
      case rel =>
        refine ⟨k + 1, by omega, by go_num, ?_⟩
        have := H9.out
        rw [data_append, HL2.out] at this
        rw [HE.out]
        simpa only [List.append_assoc] using this
    · have hk2 : k = N1 := by omega
      subst hk2
      obtain ⟨l, hl⟩ : ∃ l, l = headN n ++ entsN n k := ⟨_, rfl⟩
      have hlb : l = bodyN n := by rw [hl, HN.out.1]; rfl
      have hII := HI.out
      rw [← hl] at hII
      have hlen2 := Builder_Len B gb (Lib.byteCells l) wr hII.2
      rw [Lib.byteCells_length, hlb, ← HR.out.2.2.2.1] at hlen2
      have HLn := Lib.hid hlen2
      have HI2 := Lib.hid hII
      have HLB := Lib.hid (And.intro hl hlb)
      clear hl hlb hII hlen2
      go_wp2_with fail
      refine HLn.out.mono ?_
      rintro e w7 ⟨rfl, rfl⟩
      go_wp2_with fail
      refine (strings_Repeat ⟨#[0]⟩ d w7 (by omega) (by show 1 * d ≤ _; omega)).mono ?_
      rintro e w8 ⟨rfl, hb8⟩
      have H8 : Hid (EncI w1 B gb l w8) := ⟨HI2.out.1.trans (hb8.mono (HS.out _ _ HI2.out)), isBuilder_below HI2.out.2 hb8⟩
      clear hb8
      obtain ⟨t, ht⟩ : ∃ t, t = (⟨(Lib.repeatL [0] d).toArray⟩ : ByteArray) := ⟨_, rfl⟩
      have ht2 : t.data.toList = Lib.repeatL [0] d := by rw [ht]
      have ht3 : t.size = d := by rw [← length_data, ht2, Lib.repeatL_length]; simp
      have HT := Lib.hid (And.intro ht2 ht3)
      rw [show (⟨#[0]⟩ : ByteArray).data.toList = [0] from rfl, ← ht]
      clear ht ht2 ht3
      go_wp2_with fail
      refine (HPS.out w8 l t H8.out (by rw [HT.out.2]; have := HLB.out.2; have h2 := HR.out.2.2.2.1; rw [← this] at h2; omega)).mono ?_
      rintro e w9 ⟨⟨rv, rfl⟩, hI9⟩
      have H9 := Lib.hid hI9
      clear hI9
      go_wp2_with fail
      refine (Builder_String_any B gb _ w9 H9.out.2 (HS.out _ _ H9.out)).mono ?_
      rintro e w10 ⟨rfl, hb10⟩
      have H10 := Lib.hid (H9.out.1.trans hb10)
      have hfin : (⟨(l ++ t.data.toList).toArray⟩ : ByteArray) = encS n m := by
        rw [HT.out.1, HLB.out.2, HR.out.2.2.2.2.1, HR.out.2.2.2.1]
        exact encN_last n m
      rw [hfin]
      clear hb10 hfin
      go_wp2_with fail
      go_ret2
      exact ⟨rfl, HR.out.2.1.trans (H10.out.mono (by rw [HR.out.2.2.1]; omega))⟩

set_option maxRecDepth 100000 in
set_option maxHeartbeats 4000000 in
theorem encode_branch (n : Nd) (A1 A2 A3 : Option Addr) (c1 c2 c3 m : Nat) (w : World) (h : NdR w n A1 A2 A3) (m1 : 512 ≤ m) (m2 : m ≤ 4096) (m3 : m % 512 = 0) (hn : CheckN n m) (hlf : n.leaf = false) :
    Calls Try.prog 9 #[.agg (ndC n A1 A2 A3 c1 c2 c3), .int .i64 m] w fun e w' => e = .returned (.tuple #[.string (encS n m), .int .i64 0]) ∧ Below w.heap.size w w' := by
  obtain ⟨w1, hw1⟩ : ∃ w1, w1 = w.alloc (.cells (ndC n A1 A2 A3 c1 c2 c3) 26) := ⟨_, rfl⟩
  have hB1 : Below w.heap.size w w1 := by rw [hw1]; exact (Below.refl _ w).alloc (Nat.le_refl _) _
  have h' := h.below hB1
  have hck := check_yes n A1 A2 A3 c1 c2 c3 m true w1 h' m1 m2 m3 (by simp [hn])
  have hbx := Blk.new w 26 (ndC n A1 A2 A3 c1 c2 c3)
  obtain ⟨bx, hbxe⟩ : ∃ bx, bx = w.heap.size := ⟨_, rfl⟩
  obtain ⟨B, hBe⟩ : ∃ B, B = w1.heap.size := ⟨_, rfl⟩
  rw [← hw1, ← hbxe] at hbx
  have hBw : B = w.heap.size + 1 := by rw [hBe, hw1]; simp
  have hbody := length_bodyN hn
  have hbm := hn.1.2
  have hlen : Hid (∀ j, j ≤ n.keys.length → (headN n ++ entsN n j).length ≤ 4096) := fun j hj => by
    have h1 := entsN_le n hj
    have h2 : (bodyN n).length = (headN n ++ entsN n n.keys.length).length := rfl
    rw [List.length_append] at h2 ⊢
    omega
  have hkey : Hid (∀ i, i < n.keys.length → (n.keys.getD i ⟨#[]⟩).size ≤ 64) := fun i hi => (hn.1.1 i hi).2.1
  have hvl : Hid (n.kids.length = n.keys.length + 1) := (hn.2.2 hlf).2.1
  have hk64 : n.keys.length ≤ 4096 := by
    have h1 := szs_ge n.keys 1 n.keys.length
    have h2 : bytesN n = 3 + szs n.keys 1 n.keys.length + 4 * n.kids.length := by unfold bytesN; rw [hlf]; rfl
    have := hn.2.2 hlf
    unfold BranchP at this
    omega
  obtain ⟨N1, hN1⟩ : ∃ N, N = n.keys.length := ⟨_, rfl⟩
  obtain ⟨N2, hN2⟩ : ∃ N, N = n.vals.length := ⟨_, rfl⟩
  obtain ⟨N3, hN3⟩ : ∃ N, N = n.kids.length := ⟨_, rfl⟩
  obtain ⟨L, hL⟩ : ∃ L, L = (bodyN n).length := ⟨_, rfl⟩
  obtain ⟨d, hd⟩ : ∃ d, d = m - L := ⟨_, rfl⟩
  have hd1 : (m : Int) - (L : Int) = (d : Int) := by omega
  have hd2 : d ≤ 4096 := by omega
  have hL2 : L ≤ 4096 := by omega
  have HR := Lib.hid (And.intro h' (And.intro hB1 (And.intro hBw (And.intro hL (And.intro hd hlf)))))
  have HCK : Hid (Calls Try.prog 15 #[.agg (ndC n A1 A2 A3 c1 c2 c3), .int .i64 m] w1 fun e w' => e = .returned (.int .i64 0) ∧ Below w1.heap.size w1 w') := hck
  unfold ndC at *
  rw [← hN1, ← hN2, ← hN3, hlf] at hw1 HCK hbx ⊢
  rw [← hN1] at hk64
  have HN := Lib.hid (And.intro hN1 (And.intro hN2 hN3))
  have HW := Lib.hid (And.intro hw1 hbxe)
  have HX : Hid (∀ u, Below B w1 u → u.cell? ⟨bx, 0, none⟩ = some (.bool false) ∧ u.cell? ⟨bx, 1, none⟩ = some (.slice A1 N1 c1) ∧ u.cell? ⟨bx, 2, none⟩ = some (.slice A2 N2 c2) ∧ u.cell? ⟨bx, 3, none⟩ = some (.slice A3 N3 c3)) := fun u hu => by
    have hk := hbx.below hu (by omega)
    exact ⟨hk.cell 0, hk.cell 1, hk.cell 2, hk.cell 3⟩
  have HRd : Hid (∀ u, Below B w1 u → NdR u n A1 A2 A3) := fun u hu => by rw [hBe] at hu; exact h'.below hu
  have HBe := Lib.hid hBe
  obtain ⟨x0, x1, x2, x3⟩ := HX.out w1 (Below.refl _ _)
  clear h hn hB1 hck hN1 hN2 hN3 hw1 hbx hbxe h' hBw hbody hbm hL hd hlf hBe
  go_enter Try.func9, Try.ntmps9
  go_upto_region 1 with fail
  rw [← HW.out.1, ← HW.out.2]
  go_wp2_with fail
  refine HCK.out.mono ?_
  rintro e w2 ⟨rfl, hb⟩
  have hb2 : Below B w1 w2 := by rw [HBe.out]; exact hb
  have hbs : B ≤ w2.heap.size := by rw [HBe.out]; exact hb.size
  obtain ⟨w3, hw3⟩ : ∃ w3, w3 = w2.alloc (.cells #[.pointer none, .slice none 0 0] 56) := ⟨_, rfl⟩
  obtain ⟨gb, hgb⟩ : ∃ gb, gb = w2.heap.size := ⟨_, rfl⟩
  have hI3 : EncI w1 B gb [] w3 := ⟨by rw [hw3]; exact hb2.alloc hbs _, by rw [hw3, hgb]; exact isBuilder_fresh w2 hbs⟩
  have HW3 := Lib.hid (And.intro hw3 hgb)
  have H3 := Lib.hid hI3
  clear hb hb2 hbs hw3 hgb hI3 x0 x1 x2 x3
  have HS : Hid (∀ u l, EncI w1 B gb l u → B ≤ u.heap.size) := fun u l hu => by rw [HBe.out]; exact hu.1.size
  have HP1 : Hid (∀ (u : World) (l : List UInt8) (v : Nat), EncI w1 B gb l u → v < 4294967296 → l.length + 4 ≤ 1000000 → Calls Try.prog 27 #[.int .i64 v, .int .i64 1, .pointer (some ⟨gb, 0, none⟩)] u fun e w' => e = .returned (.tuple #[]) ∧ EncI w1 B gb (l ++ be 1 v) w') := fun u l v hu hv hl =>
    (put1_b l v u hu.2 hv (HS.out u l hu) hl).mono fun e u' ⟨h1, h2, h3⟩ => ⟨h1, hu.1.trans h3, h2⟩
  have HP2 : Hid (∀ (u : World) (l : List UInt8) (v : Nat), EncI w1 B gb l u → v < 4294967296 → l.length + 4 ≤ 1000000 → Calls Try.prog 27 #[.int .i64 v, .int .i64 2, .pointer (some ⟨gb, 0, none⟩)] u fun e w' => e = .returned (.tuple #[]) ∧ EncI w1 B gb (l ++ be 2 v) w') := fun u l v hu hv hl =>
    (put2_b l v u hu.2 hv (HS.out u l hu) hl).mono fun e u' ⟨h1, h2, h3⟩ => ⟨h1, hu.1.trans h3, h2⟩
  have HP4 : Hid (∀ (u : World) (l : List UInt8) (v : Nat), EncI w1 B gb l u → v < 4294967296 → l.length + 4 ≤ 1000000 → Calls Try.prog 27 #[.int .i64 v, .int .i64 4, .pointer (some ⟨gb, 0, none⟩)] u fun e w' => e = .returned (.tuple #[]) ∧ EncI w1 B gb (l ++ be 4 v) w') := fun u l v hu hv hl =>
    (put4_b l v u hu.2 hv (HS.out u l hu) hl).mono fun e u' ⟨h1, h2, h3⟩ => ⟨h1, hu.1.trans h3, h2⟩
  have HPS : Hid (∀ (u : World) (l : List UInt8) (s : ByteArray), EncI w1 B gb l u → l.length + s.size ≤ 1000000 → Calls Try.prog 29 #[.pointer (some ⟨gb, 0, none⟩), .string s] u fun e w' => (∃ v, e = .returned v) ∧ EncI w1 B gb (l ++ s.data.toList) w') := fun u l s hu hl =>
    (writeS_b l s u hu.2 (HS.out u l hu) hl).mono fun e u' ⟨h1, h2, h3⟩ => ⟨h1, hu.1.trans h3, h2⟩
  have y0 := (HX.out w3 H3.out.1).1
  go_upto_region 5 with fail
  rw [← HW3.out.1, ← HW3.out.2]
  go_wp2_with fail
  refine (HP1.out w3 [] 2 H3.out (by decide) (by decide)).mono ?_
  rintro e w4 ⟨rfl, hI⟩
  have H4 := Lib.hid hI
  clear hI y0
  have y1 := (HX.out w4 H4.out.1).2.1
  have hN1b : N1 < 4294967296 := by omega
  go_wp2_with fail
  refine (HP2.out w4 _ N1 H4.out hN1b (by decide)).mono ?_
  rintro e w5 ⟨rfl, hI⟩
  have H5 := Lib.hid hI
  clear hI y1
  obtain ⟨y0, y1, y2, y3⟩ := HX.out w5 H5.out.1
  obtain ⟨b0, off0, rfl, _, hcl0⟩ := (HRd.out w5 H5.out.1).i (by rw [hvl.out]; omega)
  have hc0 := hcl0 0 (by rw [hvl.out]; omega)
  have hu0 := (HRd.out w5 H5.out.1).u 0
  obtain ⟨kd, hkd⟩ : ∃ x, x = n.kids.getD 0 0 := ⟨_, rfl⟩
  rw [← hkd, Nat.add_zero] at hc0
  rw [← hkd] at hu0
  have H2 := Lib.hid hkd
  have hN3e : 0 < N3 := by have := hvl.out; have h2 := HN.out; omega
  clear hcl0 hkd
  go_wp2_with fail
  refine (HP4.out w5 _ kd H5.out hu0 (by rw [List.length_append, List.length_append, length_be, length_be]; decide)).mono ?_
  rintro e w6 ⟨rfl, hI⟩
  have H6 : Hid (EncI w1 B gb (headN n) w6) := by
    have := hI
    rw [HN.out.1, H2.out, headN_branch HR.out.2.2.2.2.2] at this
    exact this
  clear hI y0 y1 y2 y3 hc0
  obtain ⟨y0, y1, y2, y3⟩ := HX.out w6 H6.out.1
  go_wp2_with fail
  go_loopg [42] N1 (fun g i wr => ∃ k : Nat, k + g = N1 ∧ i = .int .i64 k ∧ EncI w1 B gb (headN n ++ entsN n k) wr)
  case atStart => exact ⟨0, by omega, rfl, by rw [show headN n ++ entsN n 0 = headN n from List.append_nil _]; exact H6.out⟩
  case round =>
    clear y0 y1 y2 y3
    obtain ⟨k, hk, rfl, hI⟩ := hrel
    have HI := Lib.hid hI
    clear hI
    by_cases hlt : k < N1
    · have HL := hlen.out k (by rw [← HN.out.1]; omega)
      have HKE := hkey.out k (by rw [← HN.out.1]; omega)
      obtain ⟨b, off, rfl, _, hcl⟩ := (HRd.out wr HI.out.1).k (by rw [← HN.out.1]; omega)
      have hcell := hcl k (by rw [← HN.out.1]; exact hlt)
      have HC2 : Hid (∀ u, Below B w1 u → u.cell? ⟨b0, off0 + (k + 1), none⟩ = some (.int .u32 (n.kids.getD (k + 1) 0 : Nat))) := fun u hu => by
        obtain ⟨b3, off3, e, _, hcl3⟩ := (HRd.out u hu).i (by rw [hvl.out]; omega)
        injection e with e
        injection e with e1 e2
        subst e1 e2
        exact hcl3 (k + 1) (by rw [hvl.out, ← HN.out.1]; omega)
      have hu1 := (HRd.out wr HI.out.1).u (k + 1)
      have hent : entsN n (k + 1) = entsN n k ++ (be 1 (n.keys.getD k ⟨#[]⟩).size ++ ((n.keys.getD k ⟨#[]⟩).data.toList ++ be 4 (n.kids.getD (k + 1) 0))) := by
        show entsN n k ++ entN n k = _
        unfold entN
        rw [HR.out.2.2.2.2.2]
        rfl
      obtain ⟨x, hx⟩ : ∃ x, x = n.keys.getD k ⟨#[]⟩ := ⟨_, rfl⟩
      obtain ⟨y, hy⟩ : ∃ y, y = n.kids.getD (k + 1) 0 := ⟨_, rfl⟩
      rw [← hx] at hcell HKE hent
      rw [← hy] at HC2 hent hu1
      obtain ⟨z, hz⟩ : ∃ z, z = x.size := ⟨_, rfl⟩
      have hz' : x.size = z := hz.symm
      rw [hz'] at HKE hent
      have HE := Lib.hid hent
      have hN3k : k + 1 < N3 := by have := hvl.out; have h2 := HN.out; omega
      obtain ⟨l, hl⟩ : ∃ l, l = headN n ++ entsN n k := ⟨_, rfl⟩
      have hII := HI.out
      rw [← hl] at hII HL
      have HI2 := Lib.hid hII
      have HL2 := Lib.hid hl
      clear hx hy hz hent hl hII hcl
      go_wp2_with fail
      refine (HP1.out wr l z HI2.out (by omega) (by omega)).mono ?_
      rintro e w7 ⟨rfl, hI⟩
      have H7 := Lib.hid hI
      clear hI hcell
      obtain ⟨y0, y1, y2, y3⟩ := HX.out w7 H7.out.1
      clear y1 y3 y2
      go_wp2_with fail
      refine (HPS.out w7 _ x H7.out (by rw [List.length_append, length_be]; omega)).mono ?_
      rintro e w8 ⟨⟨rv, rfl⟩, hI⟩
      have H8 := Lib.hid hI
      clear hI y0
      obtain ⟨y0, y1, y2, y3⟩ := HX.out w8 H8.out.1
      have hcell2 := HC2.out w8 H8.out.1
      clear y1 y2 y0
      obtain ⟨kp, hkp⟩ : ∃ kp, kp = k + 1 := ⟨_, rfl⟩
      rw [← hkp] at hcell2
      have hk1 : (k : Int) + 1 = (kp : Int) := by omega
      have hk2 : kp < N3 := by omega
      have hk3 : kp ≤ 4096 := by omega
      clear hkp
      go_wp2_with fail
      refine (HP4.out w8 _ y H8.out hu1 (by rw [List.length_append, List.length_append, length_be, length_data]; omega)).mono ?_
      rintro e w9 ⟨rfl, hI⟩
      have H9 := Lib.hid hI
      clear hI hcell2 y3
      go_wp2_with fail
      go_roundg (gk - 1)
      case measure => omega
      case rel =>
        refine ⟨k + 1, by omega, by go_num, ?_⟩
        have := H9.out
        rw [HL2.out] at this
        rw [HE.out]
        simpa only [List.append_assoc] using this
    · have hk2 : k = N1 := by omega
      subst hk2
      obtain ⟨l, hl⟩ : ∃ l, l = headN n ++ entsN n k := ⟨_, rfl⟩
      have hlb : l = bodyN n := by rw [hl, HN.out.1]; rfl
      have hII := HI.out
      rw [← hl] at hII
      have hlen2 := Builder_Len B gb (Lib.byteCells l) wr hII.2
      rw [Lib.byteCells_length, hlb, ← HR.out.2.2.2.1] at hlen2
      have HLn := Lib.hid hlen2
      have HI2 := Lib.hid hII
      have HLB := Lib.hid (And.intro hl hlb)
      clear hl hlb hII hlen2
      go_wp2_with fail
      refine HLn.out.mono ?_
      rintro e w7 ⟨rfl, rfl⟩
      go_wp2_with fail
      refine (strings_Repeat ⟨#[0]⟩ d w7 (by omega) (by show 1 * d ≤ _; omega)).mono ?_
      rintro e w8 ⟨rfl, hb8⟩
      have H8 : Hid (EncI w1 B gb l w8) := ⟨HI2.out.1.trans (hb8.mono (HS.out _ _ HI2.out)), isBuilder_below HI2.out.2 hb8⟩
      clear hb8
      obtain ⟨t, ht⟩ : ∃ t, t = (⟨(Lib.repeatL [0] d).toArray⟩ : ByteArray) := ⟨_, rfl⟩
      have ht2 : t.data.toList = Lib.repeatL [0] d := by rw [ht]
      have ht3 : t.size = d := by rw [← length_data, ht2, Lib.repeatL_length]; simp
      have HT := Lib.hid (And.intro ht2 ht3)
      rw [show (⟨#[0]⟩ : ByteArray).data.toList = [0] from rfl, ← ht]
      clear ht ht2 ht3
      go_wp2_with fail
      refine (HPS.out w8 l t H8.out (by rw [HT.out.2]; have := HLB.out.2; have h2 := HR.out.2.2.2.1; rw [← this] at h2; omega)).mono ?_
      rintro e w9 ⟨⟨rv, rfl⟩, hI9⟩
      have H9 := Lib.hid hI9
      clear hI9
      go_wp2_with fail
      refine (Builder_String_any B gb _ w9 H9.out.2 (HS.out _ _ H9.out)).mono ?_
      rintro e w10 ⟨rfl, hb10⟩
      have H10 := Lib.hid (H9.out.1.trans hb10)
      have hfin : (⟨(l ++ t.data.toList).toArray⟩ : ByteArray) = encS n m := by
        rw [HT.out.1, HLB.out.2, HR.out.2.2.2.2.1, HR.out.2.2.2.1]
        exact encN_last n m
      rw [hfin]
      clear hb10 hfin
      go_wp2_with fail
      go_ret2
      exact ⟨rfl, HR.out.2.1.trans (H10.out.mono (by rw [HR.out.2.2.1]; omega))⟩
theorem encode_yes (n : Nd) (A1 A2 A3 : Option Addr) (c1 c2 c3 : Nat) (m : Int) (w : World) (h : NdR w n A1 A2 A3) (hn : EncP n m) :
    Calls Try.prog 9 #[.agg (ndC n A1 A2 A3 c1 c2 c3), .int .i64 m] w fun e w' => e = .returned (.tuple #[.string (encS n m.toNat), .int .i64 0]) ∧ Below w.heap.size w w' := by
  obtain ⟨hs, hc⟩ := hn
  obtain ⟨k, rfl, h1, h2, h3⟩ := hs.nat
  have e : ((k : Int)).toNat = k := by omega
  rw [e] at hc ⊢
  cases hl : n.leaf with
  | true => exact encode_leaf n A1 A2 A3 c1 c2 c3 k w h h1 h2 h3 hc hl
  | false => exact encode_branch n A1 A2 A3 c1 c2 c3 k w h h1 h2 h3 hc hl
end Go.Proofs.Ytpggicaphejjfaa
