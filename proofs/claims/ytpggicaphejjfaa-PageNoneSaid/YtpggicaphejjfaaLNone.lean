/-
  The law PageNone: its walk.
-/
import Derived.Test.YtpggicaphejjfaaLBack
import Derived.Test.YtpggicaphejjfaaPREncode
import Derived.StillTailTactics
set_option linter.unusedVariables false
namespace Go.Proofs.Ytpggicaphejjfaa
open Go.RowKit

def nl : Nd := ⟨true, [], [], []⟩
def nz : Nd := ⟨false, [], [], [0]⟩
def nk : Nd := ⟨false, [], [], [4294967295]⟩
theorem nd_lits (W : World) (b : Bool) : NdR W ⟨b, [], [], []⟩ none none none :=
  { k := fun h => absurd h (by simp), v := fun h => absurd h (by simp), i := fun h => absurd h (by simp), l1 := Nat.zero_le _, l2 := Nat.zero_le _, l3 := Nat.zero_le _
    a1 := fun h => absurd h (by simp), a2 := fun h => absurd h (by simp), b := fun i => by simp [ByteArray.size], z := fun i => by simp [ByteArray.size], u := fun i => by simp }
theorem nd_kid (W : World) (k : Nat) (b : Nat) (hk : k < 4294967296) (h : Blk W b 42 #[.int .u32 (k : Nat)]) : NdR W ⟨false, [], [], [k]⟩ none none (some ⟨b, 0, none⟩) :=
  { k := fun h => absurd h (by simp), v := fun h => absurd h (by simp)
    i := fun _ => ⟨b, 0, rfl, h.lt, fun i hi => by
      have : i = 0 := by simpa using hi
      subst this
      exact h.cell 0⟩
    l1 := Nat.zero_le _, l2 := Nat.zero_le _, l3 := by simp
    a1 := fun h => absurd h (by simp), a2 := fun h => absurd h (by simp), b := fun i => by simp [ByteArray.size], z := fun i => by simp [ByteArray.size]
    u := fun i => by
      rcases i with _ | i
      · exact hk
      · simp }
theorem kind0 (r : List UInt8) : kindOf (0 :: r) = 0 := by
  unfold kindOf tT tB
  simp [val, valL]
theorem keysP_nil : KeysP [] := fun i hi => absurd hi (by simp)
theorem enc_nl : EncP nl 512 := ⟨by decide, ⟨⟨keysP_nil, by decide⟩, fun _ => ⟨rfl, rfl, fun i hi => absurd hi (by simp [nl])⟩, fun h => by cases h⟩⟩
theorem enc_nl5 : ¬ EncP nl 511 := fun h => by
  have := h.1
  revert this
  decide
theorem enc_nd0 : ¬ EncP nd0 512 := fun h => by
  have := (h.2.2.2 rfl).2.1
  revert this
  decide
theorem enc_nz : ¬ EncP nz 512 := fun h => (h.2.2.2 rfl).2.2.2 ⟨0, by decide, rfl⟩
theorem enc_nk : EncP nk 4096 := by
  refine ⟨by decide, ⟨⟨keysP_nil, by decide⟩, (fun h => by cases h), (fun _ => ⟨rfl, rfl, by decide, ?_⟩)⟩⟩
  rintro ⟨j, hj, e⟩
  have : j = 0 := by simpa [nk] using hj
  subst this
  revert e
  decide
theorem us_nl : ∀ i, nl.kids.getD i 0 < 4294967296 := fun i => by simp [nl]
theorem us_nk : ∀ i, nk.kids.getD i 0 < 4294967296 := fun i => by
  rcases i with _ | i
  · decide
  · simp [nk]
theorem dec_zero (s : ByteArray) (h : ¬ ∃ n, ValidN s n) {n : Nd} {e : Int} (hR : DecR s n e) : n = nd0 ∧ e = 4 := by
  rcases hR with ⟨_, hv⟩ | ⟨e, hn, _⟩
  · exact absurd ⟨n, hv⟩ h
  · exact ⟨hn, e⟩
theorem dec_empty : ¬ ∃ n, ValidN ⟨#[]⟩ n := fun ⟨n, hv⟩ => by
  have := hv.2.1.1
  revert this
  decide
theorem dec_zeros : ¬ ∃ n, ValidN (mkB (List.replicate 512 0)) n := fun ⟨n, hv⟩ => by
  have h := valid_kind hv
  rw [mkB_data] at h
  have e : kindOf (List.replicate 512 0) = 0 := kind0 (List.replicate 511 0)
  rw [e] at h
  rcases h with h | h <;> cases h
/-- Decode of what is no node's block -/
theorem decode_bad (s : ByteArray) (h : ¬ ∃ n, ValidN s n) (hs : s.size ≤ 140737488355328) (w : World) : Calls Try.prog 23 #[.string s] w fun e w' => ∃ (K V U : Option Addr) (c1 c2 c3 : Nat), e = .returned (.tuple #[.agg #[.bool false, .slice K 0 c1, .slice V 0 c2, .slice U 0 c3], .int .i64 4]) ∧ Below w.heap.size w w' :=
  (decode_any s w hs).mono fun e w' ⟨n, K, V, U, c1, c2, c3, ev, he, hb, _, _, hR, _⟩ => by
    obtain ⟨rfl, rfl⟩ := dec_zero s h hR
    exact ⟨K, V, U, c1, c2, c3, he, hb⟩
/-- Decode of a node's block -/
theorem decode_good (n : Nd) (m : Nat) (hu : ∀ i, n.kids.getD i 0 < 4294967296) (h : EncP n m) (w : World) : Calls Try.prog 23 #[.string (encS n m)] w fun e w' => ∃ (K V U : Option Addr) (c1 c2 c3 : Nat), e = .returned (.tuple #[.agg (ndC n K V U c1 c2 c3), .int .i64 0]) ∧ Below w.heap.size w w' ∧ NdR w' n K V U :=
  (decode_any (encS n m) w (by rw [size_encS (encP_check h).1]; have := (encP_check h).2; omega)).mono fun e w' ⟨n', K, V, U, c1, c2, c3, ev, he, hb, hnd, _, hR, _⟩ => by
    obtain ⟨rfl, rfl⟩ := decR_inj hR (.inl ⟨rfl, valid_of hu h⟩)
    exact ⟨K, V, U, c1, c2, c3, he, hb, hnd⟩

set_option maxRecDepth 100000 in
set_option maxHeartbeats 8000000 in
theorem none_any (w : World) : Calls Try.prog 7 #[] w fun e w' => e = .returned (.bool true) ∧ Below w.heap.size w w' := by
  obtain ⟨i0, hi, hq⟩ := Option.map_eq_some_iff.1 info5'
  have I0 : Hid (Try.prog.info? 5 = some i0 ∧ i0.zero = some (.int .u8 0) ∧ i0.size = 1 ∧ i0.bytes = 1) := ⟨hi, (Prod.mk.inj hq).1, (Prod.mk.inj (Prod.mk.inj hq).2).1, (Prod.mk.inj (Prod.mk.inj hq).2).2⟩
  have HD1 : Hid (∀ u, Calls Try.prog 23 #[.string ⟨#[]⟩] u _) := fun u => decode_bad ⟨#[]⟩ dec_empty (by decide) u
  obtain ⟨sz, hsz⟩ : ∃ s, s = mkB (List.replicate 512 0) := ⟨_, rfl⟩
  have HD2 : Hid (∀ u, Calls Try.prog 23 #[.string sz] u _) := fun u => by rw [hsz]; exact decode_bad (mkB (List.replicate 512 0)) dec_zeros (by rw [mkB_size]; decide) u
  have HSZ := Lib.hid hsz
  clear hsz hi hq
  obtain ⟨es, hes⟩ : ∃ s, s = encS nl 512 := ⟨_, rfl⟩
  obtain ⟨et, het⟩ : ∃ s, s = encS nk 4096 := ⟨_, rfl⟩
  have HE1 : Hid (∀ u, Calls Try.prog 9 #[.agg #[.bool true, .slice none 0 0, .slice none 0 0, .slice none 0 0], .int .i64 511] u fun e w' => e = .returned (.tuple #[.string ⟨#[]⟩, .int .i64 1]) ∧ Below u.heap.size u w') := fun u => encode_no nl none none none 0 0 0 511 u (nd_lits u true) enc_nl5
  have HE2 : Hid (∀ u, Calls Try.prog 9 #[.agg #[.bool true, .slice none 0 0, .slice none 0 0, .slice none 0 0], .int .i64 512] u fun e w' => e = .returned (.tuple #[.string es, .int .i64 0]) ∧ Below u.heap.size u w') := fun u => by rw [hes]; exact encode_yes nl none none none 0 0 0 512 u (nd_lits u true) enc_nl
  have HE3 : Hid (∀ u, Calls Try.prog 9 #[.agg #[.bool false, .slice none 0 0, .slice none 0 0, .slice none 0 0], .int .i64 512] u fun e w' => e = .returned (.tuple #[.string ⟨#[]⟩, .int .i64 1]) ∧ Below u.heap.size u w') := fun u => encode_no nd0 none none none 0 0 0 512 u (nd_lits u false) enc_nd0
  have HE4 : Hid (∀ u, Calls Try.prog 9 #[.agg #[.bool false, .slice none 0 0, .slice none 0 0, .slice (some ⟨u.heap.size, 0, none⟩) 1 1], .int .i64 512] (u.alloc (.cells #[.int .u32 0] 42)) fun e w' => e = .returned (.tuple #[.string ⟨#[]⟩, .int .i64 1]) ∧ Below u.heap.size u w') := fun u =>
    (encode_no nz none none (some ⟨u.heap.size, 0, none⟩) 0 0 1 512 _ (nd_kid _ 0 _ (by decide) (Blk.new u 42 _)) enc_nz).mono fun e w' ⟨h1, h2⟩ => ⟨h1, below_step ((Below.refl _ u).alloc (Nat.le_refl _) _) h2⟩
  have HE5 : Hid (∀ u, Calls Try.prog 9 #[.agg #[.bool false, .slice none 0 0, .slice none 0 0, .slice (some ⟨u.heap.size, 0, none⟩) 1 1], .int .i64 4096] (u.alloc (.cells #[.int .u32 4294967295] 42)) fun e w' => e = .returned (.tuple #[.string et, .int .i64 0]) ∧ Below u.heap.size u w') := fun u => by
    rw [het]
    exact (encode_yes nk none none (some ⟨u.heap.size, 0, none⟩) 0 0 1 4096 _ (nd_kid _ 4294967295 _ (by decide) (Blk.new u 42 _)) enc_nk).mono fun e w' ⟨h1, h2⟩ => ⟨h1, below_step ((Below.refl _ u).alloc (Nat.le_refl _) _) h2⟩
  have HD3 : Hid (∀ u, Calls Try.prog 23 #[.string es] u fun e w' => ∃ (K V U : Option Addr) (c1 c2 c3 : Nat), e = .returned (.tuple #[.agg #[.bool true, .slice K 0 c1, .slice V 0 c2, .slice U 0 c3], .int .i64 0]) ∧ Below u.heap.size u w') := fun u => by
    rw [hes]
    exact (decode_good nl 512 us_nl enc_nl u).mono fun e w' ⟨K, V, U, c1, c2, c3, h1, h2, _⟩ => ⟨K, V, U, c1, c2, c3, h1, h2⟩
  have HD4 : Hid (∀ u, Calls Try.prog 23 #[.string et] u fun e w' => ∃ (K V : Option Addr) (b off c1 c2 c3 : Nat), e = .returned (.tuple #[.agg #[.bool false, .slice K 0 c1, .slice V 0 c2, .slice (some ⟨b, off, none⟩) 1 c3], .int .i64 0]) ∧ Below u.heap.size u w' ∧ w'.cell? ⟨b, off, none⟩ = some (.int .u32 4294967295)) := fun u => by
    rw [het]
    refine (decode_good nk 4096 us_nk enc_nk u).mono fun e w' ⟨K, V, U, c1, c2, c3, h1, h2, h3⟩ => ?_
    obtain ⟨b, off, rfl, _, hc⟩ := h3.i (by decide)
    exact ⟨K, V, b, off, c1, c2, c3, h1, h2, hc 0 (by decide)⟩
  have HM : Hid (∀ u, Calls Try.prog 11 #[.int .i64 0] u _) := fun u => most_no 0 u (by decide)
  have HO1 : Hid (∀ u, Calls Try.prog 13 #[.int .i64 (-512)] u _) := fun u => order_no (-512) u (by decide)
  have HO2 : Hid (∀ u, Calls Try.prog 13 #[.int .i64 4096] u fun e w' => e = .returned (.tuple #[.int .i64 60, .int .i64 0]) ∧ u = w') := fun u => order_yes 4096 u (by decide) (by decide) (by decide)
  have HB : Hid (∀ u, Calls Try.prog 17 #[.agg #[.bool false, .slice none 0 0, .slice none 0 0, .slice none 0 0]] u fun e w' => e = .returned (.int .i64 3) ∧ Below u.heap.size u w') := fun u => by
    have hn := nd_lits u false
    have := bytes_any nd0 none none none 0 0 0 u hn.k hn.v hn.l1 hn.l2 hn.l3 hn.a1 hn.a2 ⟨hn.z, hn.b⟩
    rw [wrap_ofNat (by decide)] at this
    exact this
  clear hes het
  go_enter Try.func7, Try.ntmps7
  go_wp2_with fail
  refine (HD1.out w).mono ?_
  rintro e w1 ⟨K1, V1, U1, p1, p2, p3, rfl, hb1⟩
  have H1 := Lib.hid hb1
  clear hb1
  go_upto_region 2 with fail
  obtain ⟨w2, hw2⟩ : ∃ w2, w2 = w1.alloc (.cells #[.bool false, .slice K1 0 p1, .slice V1 0 p2, .slice U1 0 p3] 26) := ⟨_, rfl⟩
  have H2 : Hid (Below w.heap.size w w2) := by show Below w.heap.size w w2; rw [hw2]; exact H1.out.alloc H1.out.size _
  obtain ⟨x1, hx1⟩ : ∃ x, x = w1.heap.size := ⟨_, rfl⟩
  rw [← hw2, ← hx1]
  clear hw2 hx1
  go_wp2_with (refine wpList_make_full _ rfl (.const (.int .i64 512)) (.const (.int .i64 512)) 43 rfl w2.heap.size 5 i0 (.int .u8 0) 1 Try.underlying43 I0.out.1 I0.out.2.1 I0.out.2.2.1 .i64 .i64 _ _ 512 rfl rfl rfl rfl ?m1 ?m2 ?m3 ?_)
  case m1 => rw [I0.out.2.2.2]; decide
  case m2 => unfold maxLen; decide
  case m3 => exact Nat.le_refl _
  intro w3 hown hg
  have H3 : Hid (Below w.heap.size w w3) := H2.out.grown hg H2.out.size (by simp)
  rw [toList_madeCells_one, cells_zero] at hown
  have hcv := run_textB (by simp) hown
  have hee : (⟨(List.replicate 512 (0 : UInt8)).toArray⟩ : ByteArray) = sz := HSZ.out.symm
  rw [hee] at hcv
  clear hg hown hee
  go_wp2_with fail
  refine (HD2.out w3).mono ?_
  rintro e w4 ⟨K2, V2, U2, q1, q2, q3, rfl, hb4⟩
  have H4 := Lib.hid (H3.out.trans (hb4.mono H3.out.size))
  clear hb4 hcv
  go_upto_region 3 with fail
  obtain ⟨w5, hw5⟩ : ∃ w5, w5 = w4.alloc (.cells #[.bool false, .slice K2 0 q1, .slice V2 0 q2, .slice U2 0 q3] 26) := ⟨_, rfl⟩
  have H5 : Hid (Below w.heap.size w w5) := by show Below w.heap.size w w5; rw [hw5]; exact H4.out.alloc H4.out.size _
  obtain ⟨x3, hx3⟩ : ∃ x, x = w4.heap.size := ⟨_, rfl⟩
  rw [← hw5, ← hx3]
  clear hw5 hx3
  go_wp2_with fail
  refine (HM.out w5).mono ?_
  rintro e w6 ⟨rfl, rfl⟩
  go_wp2_with fail
  refine (HO1.out _).mono ?_
  rintro e w6 ⟨rfl, rfl⟩
  go_wp2_with fail
  refine (HE1.out _).mono ?_
  rintro e w6 ⟨rfl, hb6⟩
  have H6 := Lib.hid (below_step H5.out hb6)
  clear hb6
  go_wp2_with fail
  refine (HE2.out _).mono ?_
  rintro e w7 ⟨rfl, hb7⟩
  have H7 := Lib.hid (below_step H6.out hb7)
  clear hb7
  go_wp2_with fail
  refine (HD3.out _).mono ?_
  rintro e w8 ⟨K3, V3, U3, r1, r2, r3, rfl, hb8⟩
  have H8 := Lib.hid (below_step H7.out hb8)
  clear hb8
  go_upto_region 8 with fail
  obtain ⟨w9, hw9⟩ : ∃ w9, w9 = w8.alloc (.cells #[.bool true, .slice K3 0 r1, .slice V3 0 r2, .slice U3 0 r3] 26) := ⟨_, rfl⟩
  obtain ⟨px, hpx⟩ : ∃ x, x = w8.heap.size := ⟨_, rfl⟩
  have kp : Blk w9 px 26 #[.bool true, .slice K3 0 r1, .slice V3 0 r2, .slice U3 0 r3] := by rw [hw9, hpx]; exact Blk.new w8 26 _
  have H9 : Hid (Below w.heap.size w w9 ∧ Blk w9 px 26 #[.bool true, .slice K3 0 r1, .slice V3 0 r2, .slice U3 0 r3]) := ⟨by rw [hw9]; exact H8.out.alloc H8.out.size _, kp⟩
  rw [← hw9, ← hpx]
  clear hw9 hpx kp
  go_wp2_with fail
  refine (HE3.out _).mono ?_
  rintro e w10 ⟨rfl, hb10⟩
  have H10 := Lib.hid hb10
  clear hb10
  go_wp2_with fail
  refine (HE4.out _).mono ?_
  rintro e w11 ⟨rfl, hb11⟩
  have H11 := Lib.hid (below_step H10.out hb11)
  clear hb11
  go_wp2_with fail
  refine (HE5.out _).mono ?_
  rintro e w12 ⟨rfl, hb12⟩
  have H12 := Lib.hid (below_step H11.out hb12)
  clear hb12
  go_wp2_with fail
  refine (HD4.out _).mono ?_
  rintro e w13 ⟨K4, V4, b4, o4, t1, t2, t3, rfl, hb13, hcell⟩
  have H13 := Lib.hid (And.intro (below_step H12.out hb13) hcell)
  clear hb13 hcell
  go_upto_region 12 with fail
  obtain ⟨w14, hw14⟩ : ∃ w14, w14 = w13.alloc (.cells #[.bool false, .slice K4 0 t1, .slice V4 0 t2, .slice (some ⟨b4, o4, none⟩) 1 t3] 26) := ⟨_, rfl⟩
  obtain ⟨py, hpy⟩ : ∃ x, x = w13.heap.size := ⟨_, rfl⟩
  have kq : Blk w14 py 26 #[.bool false, .slice K4 0 t1, .slice V4 0 t2, .slice (some ⟨b4, o4, none⟩) 1 t3] := by rw [hw14, hpy]; exact Blk.new w13 26 _
  have hb14 : Below w9.heap.size w9 w14 := by rw [hw14]; exact H13.out.1.alloc H13.out.1.size _
  have c4 : w14.cell? ⟨b4, o4, none⟩ = some (.int .u32 4294967295) := by rw [hw14, World.cell?_alloc_lt _ _ _ (World.block_lt_of_cell? w13 _ H13.out.2)]; exact H13.out.2
  have kp := H9.out.2.below hb14 H9.out.2.lt
  have H14 := Lib.hid (below_step H9.out.1 hb14)
  have z0 := kp.cell 0
  have z1 := kp.cell 1
  have y3 := kq.cell 3
  simp at z0 z1 y3
  rw [← hw14, ← hpy]
  clear hw14 hpy kp kq hb14
  go_wp2_with fail
  refine (HO2.out _).mono ?_
  rintro e w15 ⟨rfl, rfl⟩
  go_wp2_with fail
  refine (HB.out _).mono ?_
  rintro e w16 ⟨rfl, hb16⟩
  have H16 := Lib.hid (below_step H14.out hb16)
  clear hb16 z0 z1 y3 c4
  go_wp2_with fail
  refine (awake_any _).mono ?_
  rintro e w17 ⟨rfl, hb17⟩
  have H17 := Lib.hid (below_step H16.out hb17)
  clear hb17
  go_wp2_with fail
  go_ret
  exact ⟨by simp, H17.out⟩
end Go.Proofs.Ytpggicaphejjfaa
