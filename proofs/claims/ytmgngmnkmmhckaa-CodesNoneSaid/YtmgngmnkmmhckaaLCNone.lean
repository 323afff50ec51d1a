/-
  CodesNone: calls on nothing, and at the ends of their ranges; the closed law's walk.
-/
import Derived.Test.YtmgngmnkmmhckaaCAny
import Derived.Test.YtmgngmnkmmhckaaCAwake
set_option linter.unusedVariables false
namespace Go.Proofs.Ytmgngmnkmmhckaa
open Go.RowKit Plain

set_option maxRecDepth 100000 in
theorem nil_cput (kd K v : Nat) (w : World) : Calls Try.prog 41 #[.pointer none, .agg #[.int .u8 kd, .int .u64 K], .int .u64 v] w fun e w' => e = .returned (.int .i64 2) ∧ Below w.heap.size w w' := by
  go_enter Try.func41, Try.ntmps41
  go_wp2_with fail
  go_ret
  exact ⟨rfl, (Below.refl _ _).alloc (Nat.le_refl _) _⟩
set_option maxRecDepth 100000 in
set_option maxHeartbeats 4000000 in
theorem nil_cread (kd K : Nat) (w : World) : Calls Try.prog 37 #[.pointer none, .agg #[.int .u8 kd, .int .u64 K]] w fun e w' => e = .returned (.tuple #[.int .u64 0, .int .i64 2]) ∧ Below w.heap.size w w' := by
  have hmf : ∀ (fn : Fn) (first cap : Array Value) (w : World), (Instr.makeFunc fn first cap).run Try.prog w = .ok (.func fn first cap) w := fun _ _ _ _ => rfl
  have O3 : Hid (∀ o1 o2 o3 : Obj, Only (fun _ => False) w (((w.alloc o1).alloc o2).alloc o3)) := fun _ _ _ => (((Only.refl _ w).alloc _).alloc _).alloc _
  go_enter_defers Try.func37, Try.ntmps37
  go_wp2_with fail
  refine ⟨.tuple #[.int .u64 0, .int .i64 2], ?_, ?_⟩
  · simp [results, Try.results37, go_sem]
  · exact ⟨rfl, (O3.out _ _ _).below (fun _ _ e => e) (Nat.le_refl _)⟩

/-- where the law stands: the writer, and nothing old has turned -/
def CnS (w0 w : World) (h : Nat) (L : List Bool) : Prop := ∃ o, WrAt w h o L ∧ Below w0.heap.size w0 w ∧ w0.heap.size ≤ h ∧ Ge w0.heap.size o
theorem CnS.more {w0 w w' : World} {h : Nat} {L : List Bool} (s : CnS w0 w h L) (k : Below w.heap.size w w') : CnS w0 w' h L := by
  obtain ⟨o, ha, hb, hg, he⟩ := s
  exact ⟨o, ha.only (Only.of_below (F := fun _ => False) k) (fun _ _ e => e), below_step hb k, hg, he⟩
theorem CnS.below {w0 w : World} {h : Nat} {L : List Bool} (s : CnS w0 w h L) : Below w0.heap.size w0 w := by
  obtain ⟨o, ha, hb, hg, he⟩ := s
  exact hb
theorem cn_put {w0 w : World} {h : Nat} {L L' : List Bool} {kd K v : Nat} {c : Int} (s : CnS w0 w h L) (hL : L.length ≤ 134217728) (hK : K < 18446744073709551616) (h1 : cpC L.length kd K v = c) (h2 : cpB L kd K v = L') :
    Calls Try.prog 41 #[.pointer (some ⟨h, 0, none⟩), .agg #[.int .u8 kd, .int .u64 K], .int .u64 v] w fun e w' => e = .returned (.int .i64 c) ∧ CnS w0 w' h L' := by
  obtain ⟨o, ha, hb, hg, he⟩ := s
  refine (cput_any h o L kd K v w ha hL hK).mono ?_
  rintro e w' ⟨rfl, p⟩
  rw [h1]
  rw [h2] at p
  have hbel := below_wr hb p hg he
  obtain ⟨o', p1, p2, p3⟩ := p
  exact ⟨rfl, o', p1, hbel, hg, p3.geq he hb.size⟩
def CrS (w0 w : World) (h : Nat) (s : ByteArray) (a : Nat) : Prop := RdAt w h s a ∧ Below w0.heap.size w0 w ∧ w0.heap.size ≤ h
theorem CrS.below {w0 w : World} {h : Nat} {s : ByteArray} {a : Nat} (x : CrS w0 w h s a) : Below w0.heap.size w0 w := x.2.1
theorem cn_read {w0 w : World} {h : Nat} {s : ByteArray} {a kd K V A : Nat} {E : Int} (x : CrS w0 w h s a) (hs : s.size ≤ 140737488355328) (hK : K < 18446744073709551616) (h1 : rV (bitsS s) a kd K = V ∧ rE (bitsS s) a kd K = E ∧ rA (bitsS s) a kd K = A) :
    Calls Try.prog 37 #[.pointer (some ⟨h, 0, none⟩), .agg #[.int .u8 kd, .int .u64 K]] w fun e w' => e = .returned (.tuple #[.int .u64 V, .int .i64 E]) ∧ CrS w0 w' h s A := by
  obtain ⟨ha, hb, hg⟩ := x
  refine (cread_any h s a kd K w ha hs hK).mono ?_
  rintro e w' ⟨rfl, p⟩
  rw [h1.1, h1.2.1]
  rw [h1.2.2] at p
  exact ⟨rfl, p.1, below_only hb p.2 hb.size (by rintro i rfl; exact hg), hg⟩
theorem CrS.more {w0 w w' : World} {h a : Nat} {s : ByteArray} (x : CrS w0 w h s a) (k : Below w.heap.size w w') : CrS w0 w' h s a :=
  ⟨x.1.only (Only.of_below (F := fun _ => False) k), below_step x.2.1 k, x.2.2⟩
def cnM : Nat := 281474976710654
def cnL1 : List Bool := cb 1 0 cnM
def cnL2 : List Bool := cnL1 ++ cb 3 16 cnM
def cnL3 : List Bool := cnL2 ++ cb 4 (cnM + 1) cnM
def cnL4 : List Bool := cnL3 ++ cb 2 0 cnM
def cnB : List Bool := cnL4 ++ List.replicate (8 * ((cnL4.length + 7) / 8) - cnL4.length) false
theorem cn_p1 : cpC ([] : List Bool).length 1 0 281474976710654 = 0 ∧ cpB [] 1 0 281474976710654 = cnL1 := by decide +kernel
theorem cn_p2 : cpC cnL1.length 1 0 281474976710655 = 1 ∧ cpB cnL1 1 0 281474976710655 = cnL1 := by decide +kernel
theorem cn_p3 : cpC cnL1.length 3 16 281474976710654 = 0 ∧ cpB cnL1 3 16 281474976710654 = cnL2 := by decide +kernel
theorem cn_p4 : cpC cnL2.length 4 281474976710655 281474976710654 = 0 ∧ cpB cnL2 4 281474976710655 281474976710654 = cnL3 := by decide +kernel
theorem cn_p5 : cpC cnL3.length 4 1 0 = 0 ∧ cpB cnL3 4 1 0 = cnL3 := by decide +kernel
theorem cn_p6 : cpC cnL3.length 2 0 281474976710654 = 0 ∧ cpB cnL3 2 0 281474976710654 = cnL4 := by decide +kernel
theorem cn_len : cnL1.length ≤ 134217728 ∧ cnL2.length ≤ 134217728 ∧ cnL3.length ≤ 134217728 := by decide +kernel
theorem cn_r1 : rV cnB 0 1 0 = 281474976710654 ∧ rE cnB 0 1 0 = 0 ∧ rA cnB 0 1 0 = cnL1.length := by decide +kernel
theorem cn_r2 : rV cnB cnL1.length 3 16 = 281474976710654 ∧ rE cnB cnL1.length 3 16 = 0 ∧ rA cnB cnL1.length 3 16 = cnL2.length := by decide +kernel
theorem cn_r3 : rV cnB cnL2.length 4 281474976710655 = 281474976710654 ∧ rE cnB cnL2.length 4 281474976710655 = 0 ∧ rA cnB cnL2.length 4 281474976710655 = cnL3.length := by decide +kernel
theorem cn_r4 : rV cnB cnL3.length 4 1 = 0 ∧ rE cnB cnL3.length 4 1 = 0 ∧ rA cnB cnL3.length 4 1 = cnL3.length := by decide +kernel
theorem cn_r5 : rV cnB cnL3.length 2 0 = 281474976710654 ∧ rE cnB cnL3.length 2 0 = 0 ∧ rA cnB cnL3.length 2 0 = cnL4.length := by decide +kernel
theorem cn_l1 : cL 0 0 65535 = 65536 ∧ cE 0 0 65535 = 0 ∧ cE 0 0 65536 = 1 ∧ cL 0 0 65536 = 0 := by
  refine ⟨?_, by decide +kernel, by decide +kernel, by decide +kernel⟩
  unfold cL
  rw [if_pos (by decide +kernel)]
  unfold cb
  rw [if_pos rfl, List.length_append, List.length_replicate]
  rfl

theorem CnS.use {w0 w : World} {h : Nat} {L : List Bool} {g kd K : Nat} (hg : g < w0.heap.size) (b : Blk w0 g 71 #[.int .u8 kd, .int .u64 K]) (k : Below w0.heap.size w0 w) :
    w.cell? ⟨g, 0, none⟩ = some (.int .u8 kd) ∧ w.cell? ⟨g, 1, none⟩ = some (.int .u64 K) := by
  have := b.below k hg
  exact ⟨by rw [this.cell 0]; rfl, by rw [this.cell 1]; rfl⟩

set_option maxRecDepth 100000 in
set_option maxHeartbeats 4000000 in
theorem cnone_any (w : World) : Calls Try.prog 10 #[] w fun e w' => e = .returned (.bool true) ∧ Below w.heap.size w w' := by
  have hB0 : Hid (Below w.heap.size w (w.alloc (.cells #[.int .u8 1, .int .u64 0] 71))) := (Below.refl _ _).alloc (Nat.le_refl _) _
  have hg0 := Blk.new w 71 #[.int .u8 1, .int .u64 0]
  have hlt : w.heap.size < (w.alloc (.cells #[.int .u8 1, .int .u64 0] 71)).heap.size := by rw [World.size_alloc]; omega
  go_enter Try.func10, Try.ntmps10
  go_wp2_with fail
  obtain ⟨w0, hw0⟩ : ∃ w0, w0 = w.alloc (.cells #[.int .u8 1, .int .u64 0] 71) := ⟨_, rfl⟩
  obtain ⟨g, hg⟩ : ∃ g, g = w.heap.size := ⟨_, rfl⟩
  rw [← hw0, ← hg] at hg0 hlt
  rw [← hw0, ← hg]
  rw [← hw0] at hB0
  have HB := Lib.hid (And.intro hlt (show Blk w0 g 71 #[.int .u8 (1 : Nat), .int .u64 (0 : Nat)] from hg0))
  clear hw0 hg hg0 hlt
  refine (nil_cput 1 0 1 _).mono ?_
  rintro e w1 ⟨rfl, hb⟩
  have H1 := Lib.hid hb
  clear hb
  obtain ⟨c0, c1⟩ := CnS.use (h := 0) (L := []) HB.out.1 HB.out.2 H1.out
  go_wp2_with fail
  refine (nil_cread 1 0 _).mono ?_
  rintro e w2 ⟨rfl, hb⟩
  have H2 := Lib.hid (below_step H1.out hb)
  clear hb c0 c1 H1
  go_wp2_with fail
  refine (new_any _).mono ?_
  rintro e w3 ⟨rfl, rfl⟩
  have H3 : Hid (CnS w0 (w2.alloc (.cells #[.slice none 0 0, .int .i64 0] 93)) w2.heap.size []) := ⟨none, WrAt.new w2, H2.out.alloc H2.out.size _, H2.out.size, Ge.none_⟩
  obtain ⟨h, hh⟩ : ∃ h, h = w2.heap.size := ⟨_, rfl⟩
  obtain ⟨w3, hw3⟩ : ∃ w3, w3 = w2.alloc (.cells #[.slice none 0 0, .int .i64 0] 93) := ⟨_, rfl⟩
  rw [← hw3, ← hh] at H3
  rw [← hw3, ← hh]
  clear hw3 hh H2
  obtain ⟨c0, c1⟩ := CnS.use (h := 0) (L := []) HB.out.1 HB.out.2 H3.out.below
  go_wp2_with fail
  refine (cn_put (kd := 1) (K := 0) (v := 281474976710654) H3.out (by decide) (by decide) cn_p1.1 cn_p1.2).mono ?_
  rintro e w4 ⟨rfl, hp⟩
  have H4 := Lib.hid hp
  clear hp H3 c0 c1
  obtain ⟨c0, c1⟩ := CnS.use (h := 0) (L := []) HB.out.1 HB.out.2 H4.out.below
  go_wp2_with fail
  refine (cn_put (kd := 1) (K := 0) (v := 281474976710655) H4.out cn_len.1 (by decide) cn_p2.1 cn_p2.2).mono ?_
  rintro e w5 ⟨rfl, hp⟩
  have H5 := Lib.hid hp
  clear hp H4 c0 c1
  go_wp2_with fail
  refine (cn_put (kd := 3) (K := 16) (v := 281474976710654) H5.out cn_len.1 (by decide) cn_p3.1 cn_p3.2).mono ?_
  rintro e w6 ⟨rfl, hp⟩
  have H6 := Lib.hid hp
  clear hp H5
  go_wp2_with fail
  refine (cn_put (kd := 4) (K := 281474976710655) (v := 281474976710654) H6.out cn_len.2.1 (by decide) cn_p4.1 cn_p4.2).mono ?_
  rintro e w7 ⟨rfl, hp⟩
  have H7 := Lib.hid hp
  clear hp H6
  go_wp2_with fail
  refine (cn_put (kd := 4) (K := 1) (v := 0) H7.out cn_len.2.2 (by decide) cn_p5.1 cn_p5.2).mono ?_
  rintro e w8 ⟨rfl, hp⟩
  have H8 := Lib.hid hp
  clear hp H7
  go_wp2_with fail
  refine (cn_put (kd := 2) (K := 0) (v := 281474976710654) H8.out cn_len.2.2 (by decide) cn_p6.1 cn_p6.2).mono ?_
  rintro e w9 ⟨rfl, hp⟩
  have H9 := Lib.hid hp
  clear hp H8
  obtain ⟨o9, a9, b9, _⟩ := H9.out
  have H9 := Lib.hid (And.intro a9 b9)
  clear a9 b9
  go_wp2_with fail
  refine (wtext_any h o9 _ _ H9.out.1).mono ?_
  rintro e w' ⟨rfl, rfl⟩
  obtain ⟨s, hs⟩ : ∃ s, s = strOf (pk cnL4) := ⟨_, rfl⟩
  have hbs : bitsS s = cnB := by rw [hs]; exact bitsS_strOf cnL4
  have hsz : s.size ≤ 140737488355328 := by rw [hs]; decide +kernel
  rw [← hs]
  have HS := Lib.hid (And.intro hbs hsz)
  clear hs hbs hsz
  go_wp2_with fail
  refine (open_any _ _).mono ?_
  rintro e w10 ⟨rfl, rfl⟩
  have HA : Hid (CrS w0 (w9.alloc (.cells #[.string s, .int .i64 0] 88)) w9.heap.size s 0) := ⟨RdAt.new w9 s, H9.out.2.alloc H9.out.2.size _, H9.out.2.size⟩
  obtain ⟨r, hr⟩ : ∃ r, r = w9.heap.size := ⟨_, rfl⟩
  obtain ⟨wa, hwa⟩ : ∃ wa, wa = w9.alloc (.cells #[.string s, .int .i64 0] 88) := ⟨_, rfl⟩
  rw [← hwa, ← hr] at HA
  rw [← hwa, ← hr]
  clear hwa hr H9
  obtain ⟨c0, c1⟩ := CnS.use (h := 0) (L := []) HB.out.1 HB.out.2 HA.out.below
  go_wp2_with fail
  refine (cn_read (kd := 1) (K := 0) HA.out HS.out.2 (by decide) (by rw [HS.out.1]; exact cn_r1)).mono ?_
  rintro e wb ⟨rfl, hp⟩
  have HBb := Lib.hid hp
  clear hp HA c0 c1
  go_wp2_with fail
  refine (cn_read (kd := 3) (K := 16) HBb.out HS.out.2 (by decide) (by rw [HS.out.1]; exact cn_r2)).mono ?_
  rintro e wc ⟨rfl, hp⟩
  have HC := Lib.hid hp
  clear hp HBb
  go_wp2_with fail
  refine (cn_read (kd := 4) (K := 281474976710655) HC.out HS.out.2 (by decide) (by rw [HS.out.1]; exact cn_r3)).mono ?_
  rintro e wd ⟨rfl, hp⟩
  have HD := Lib.hid hp
  clear hp HC
  go_wp2_with fail
  refine (cn_read (kd := 4) (K := 1) HD.out HS.out.2 (by decide) (by rw [HS.out.1]; exact cn_r4)).mono ?_
  rintro e we ⟨rfl, hp⟩
  have HE := Lib.hid hp
  clear hp HD
  go_wp2_with fail
  refine (cn_read (kd := 2) (K := 0) HE.out HS.out.2 (by decide) (by rw [HS.out.1]; exact cn_r5)).mono ?_
  rintro e wf ⟨rfl, hp⟩
  have HF : Hid (Below w0.heap.size w0 wf) := hp.below
  clear hp HE
  go_wp2_with fail
  refine (check_any 5 0 _).mono ?_
  rintro e wg ⟨rfl, hb⟩
  rw [show cChk 5 0 = 1 by decide +kernel]
  have HG := Lib.hid (below_step HF.out hb)
  clear hb HF
  go_wp2_with fail
  refine (check_any 3 0 _).mono ?_
  rintro e wh ⟨rfl, hb⟩
  rw [show cChk 3 0 = 1 by decide +kernel]
  have HH := Lib.hid (below_step HG.out hb)
  clear hb HG
  go_wp2_with fail
  refine (check_any 3 17 _).mono ?_
  rintro e wi ⟨rfl, hb⟩
  rw [show cChk 3 17 = 1 by decide +kernel]
  have HI := Lib.hid (below_step HH.out hb)
  clear hb HH
  go_wp2_with fail
  refine (check_any 0 1 _).mono ?_
  rintro e wj ⟨rfl, hb⟩
  rw [show cChk 0 1 = 1 by decide +kernel]
  have HJ := Lib.hid (below_step HI.out hb)
  clear hb HI
  go_wp2_with fail
  refine (clen_any 0 0 65535 _ (by decide)).mono ?_
  rintro e wk ⟨rfl, hb⟩
  rw [cn_l1.1, cn_l1.2.1]
  have HK := Lib.hid (below_step HJ.out hb)
  clear hb HJ
  go_wp2_with fail
  refine (clen_any 0 0 65536 _ (by decide)).mono ?_
  rintro e wl ⟨rfl, hb⟩
  rw [cn_l1.2.2.1, cn_l1.2.2.2]
  have HL := Lib.hid (below_step HK.out hb)
  clear hb HK
  go_wp2_with fail
  refine (caw_any _).mono ?_
  rintro e wm ⟨rfl, hb⟩
  have HM := Lib.hid (below_step HL.out hb)
  clear hb HL
  go_wp2_with fail
  go_ret
  exact ⟨rfl, hB0.out.trans (HM.out.mono hB0.out.size)⟩
end Go.Proofs.Ytmgngmnkmmhckaa
