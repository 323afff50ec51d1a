/-
  BitioReads: the law's walk.
-/
import Derived.Test.YtmgngmnkmmhckaaAwake
import Derived.Deep.RegionWith
import Derived.Deep.CutBlock
set_option linter.unusedVariables false
namespace Go.Proofs.Ytmgngmnkmmhckaa
open Go.RowKit Plain

theorem RrAt.lt {w : World} {h a : Nat} {l : List Bool} (hw : RrAt w h l a) : h < w.heap.size := by obtain ⟨A, c, hb, _⟩ := hw; exact hb.lt
theorem RdAt.lt {w : World} {h a : Nat} {s : ByteArray} (hw : RdAt w h s a) : h < w.heap.size := hw.1.lt
theorem RdAt.ne {w : World} {h1 h2 a b : Nat} {s : ByteArray} {l : List Bool} (h : RdAt w h1 s a) (h' : RrAt w h2 l b) : h1 ≠ h2 := by
  obtain ⟨A, c, hb, _⟩ := h'
  exact h.1.ne_ hb (by decide)
theorem RdAt.kept {w w' : World} {h1 h2 a b : Nat} {s : ByteArray} {l : List Bool} (h : RdAt w h1 s a) (h' : RrAt w h2 l b) (ho : Only (fun k => k = h2) w w') : RdAt w' h1 s a :=
  ⟨h.1.only ho (RdAt.ne h h'), h.2⟩
theorem RrAt.kept {w w' : World} {h1 h2 a b : Nat} {s : ByteArray} {l : List Bool} (h : RdAt w h1 s a) (h' : RrAt w h2 l b) (ho : Only (fun k => k = h1) w w') : RrAt w' h2 l b := by
  obtain ⟨A, c, hb, hl, hown⟩ := h'
  exact ⟨A, c, hb.only ho (fun e => hb.ne_ h.1 (by decide) e), hl, own_only hown ho (fun g hg => own_blk_ne hown h.1 (by decide) g hg)⟩
theorem RrAt.only {w w' : World} {h2 b : Nat} {l : List Bool} (h' : RrAt w h2 l b) (ho : Only (fun _ => False) w w') : RrAt w' h2 l b := by
  obtain ⟨A, c, hb, hl, hown⟩ := h'
  exact ⟨A, c, hb.only ho (fun e => e), hl, own_only hown ho (fun g hg => fun e => e)⟩
theorem RdAt.only {w w' : World} {h1 a : Nat} {s : ByteArray} (h : RdAt w h1 s a) (ho : Only (fun _ => False) w w') : RdAt w' h1 s a :=
  ⟨h.1.only ho (fun e => e), h.2⟩

theorem RdAt.drewN {w : World} {h a : Nat} {s : ByteArray} (hw : RdAt w h s a) (n : Nat) : RdAt (w.drewN n) h s a := hw
theorem below_drewN {B : Nat} {a w : World} (h : Below B a w) (n : Nat) : Below B a (w.drewN n) := ⟨h.os, h.tape, h.output, h.size, h.block⟩
theorem quiet_more {P : Program} {f : FuncId} {args : Array Value} {w : World} {n : Nat} {v : Value}
    (h : Calls P f args (w.drewN n) fun e w' => e = .returned v ∧ ∃ k, (w.drewN n).drewN k = w') : Calls P f args (w.drewN n) fun e w'' => e = .returned v ∧ ∃ m, w'' = w.drewN m :=
  h.mono fun _ _ ⟨he, k, hm⟩ => ⟨he, n + k, by rw [← hm, World.drewN_drewN]⟩
/-- both readers, at the same place -/
def Both (w0 w : World) (h1 h2 : Nat) (s : ByteArray) (a : Nat) : Prop := RdAt w h1 s a ∧ RrAt w h2 (bitsS s) a ∧ Below w0.heap.size w0 w ∧ w0.heap.size ≤ h1 ∧ w0.heap.size ≤ h2
theorem Both.step {w0 w w1 w2 : World} {h1 h2 a a' : Nat} {s : ByteArray} (h : Both w0 w h1 h2 s a) (d : RdTo w h1 s a' w1) (r : RrTo w1 h2 (bitsS s) a' w2) : Both w0 w2 h1 h2 s a' := by
  obtain ⟨hd, hr, hb, g1, g2⟩ := h
  obtain ⟨d1, d2⟩ := d
  obtain ⟨r1, r2⟩ := r
  have hr1 := RrAt.kept hd hr d2
  exact ⟨RdAt.kept d1 hr1 r2, r1, below_only (below_only hb d2 hb.size (by rintro i rfl; exact g1)) r2 (Nat.le_trans hb.size d2.size) (by rintro i rfl; exact g2), g1, g2⟩
theorem Both.step' {w0 w w1 w2 : World} {h1 h2 a a' : Nat} {s : ByteArray} (h : Both w0 w h1 h2 s a) (r : RrTo w h2 (bitsS s) a' w1) (d : RdTo w1 h1 s a' w2) : Both w0 w2 h1 h2 s a' := by
  obtain ⟨hd, hr, hb, g1, g2⟩ := h
  obtain ⟨d1, d2⟩ := d
  obtain ⟨r1, r2⟩ := r
  have hd1 := RdAt.kept hd hr r2
  exact ⟨d1, RrAt.kept hd1 r1 d2, below_only (below_only hb r2 hb.size (by rintro i rfl; exact g2)) d2 (Nat.le_trans hb.size r2.size) (by rintro i rfl; exact g1), g1, g2⟩

/-- the script in memory -/
def Script2 (w : World) (A : Option Addr) (n : Nat) (K N : Nat → Int) : Prop :=
  0 < n → ∃ b off, A = some ⟨b, off, none⟩ ∧ b < w.heap.size ∧ ∀ i, i < n → w.cell? ⟨b, off + i * 2, none⟩ = some (.int .i64 (K i)) ∧ w.cell? ⟨b, off + i * 2 + 1, none⟩ = some (.int .i64 (N i))

theorem rrbit_S (h : Nat) (s : ByteArray) (a : Nat) (w : World) (hw : RrAt w h (bitsS s) a) (hs : s.size ≤ 1048576) :
    Calls Try.prog 16 #[.pointer (some ⟨h, 0, none⟩)] w fun e w' => e = .returned (.tuple #[.bool ((takeVal (bitsS s) a 1 : Int) == 1), .int .i64 (takeCode (8 * s.size) a 1)]) ∧ RrTo w h (bitsS s) (takeAt (8 * s.size) a 1) w' := by
  have := rrbit_any h (bitsS s) a w hw (by rw [length_bitsS]; omega)
  rw [length_bitsS] at this
  exact this
theorem rtake_S (h : Nat) (s : ByteArray) (a : Nat) (n : Int) (w : World) (hw : RrAt w h (bitsS s) a) (hs : s.size ≤ 1048576) :
    Calls Try.prog 18 #[.pointer (some ⟨h, 0, none⟩), .int .i64 n] w fun e w' => e = .returned (.tuple #[.int .u64 (takeVal (bitsS s) a n), .int .i64 (takeCode (8 * s.size) a n)]) ∧ RrTo w h (bitsS s) (takeAt (8 * s.size) a n) w' := by
  have := rtake_any h (bitsS s) a n w hw (by rw [length_bitsS]; omega)
  rw [length_bitsS] at this
  exact this
theorem rseek_S (h : Nat) (s : ByteArray) (a : Nat) (n : Int) (w : World) (hw : RrAt w h (bitsS s) a) (hs : s.size ≤ 1048576) :
    Calls Try.prog 20 #[.pointer (some ⟨h, 0, none⟩), .int .i64 n] w fun e w' => e = .returned (.int .i64 (seekCode s.size n)) ∧ RrTo w h (bitsS s) (seekAt s.size a n) w' := by
  have := rseek_any h (bitsS s) a n w hw (by rw [length_bitsS]; omega)
  unfold rseekAt at this
  rw [seekCode_eq] at this
  exact this

set_option maxRecDepth 100000 in
set_option maxHeartbeats 4000000 in
theorem reads_any (s : ByteArray) (A : Option Addr) (n c : Nat) (K N : Nat → Int) (w : World) (hs : s.size ≤ 1048576) (hn : n ≤ 1048576) (hA : Script2 w A n K N) :
    Calls Try.prog 3 #[.string s, .slice A n c] w fun e w' => e = .returned (.bool true) ∧ Below w.heap.size w w' := by
  go_enter Try.func3, Try.ntmps3
  go_wp2_with fail
  refine (open_any _ _).mono ?_
  rintro e w1 ⟨rfl, rfl⟩
  have hd1 := RdAt.new w s
  have hb1 : Below w.heap.size w (w.alloc (.cells #[.string s, .int .i64 0] 88)) := (Below.refl _ _).alloc (Nat.le_refl _) _
  obtain ⟨h1, hh1⟩ : ∃ h1, h1 = w.heap.size := ⟨_, rfl⟩
  obtain ⟨w1, hw1e⟩ : ∃ w1, w1 = w.alloc (.cells #[.string s, .int .i64 0] 88) := ⟨_, rfl⟩
  rw [← hw1e] at hd1 hb1 ⊢
  rw [← hh1] at hd1 ⊢
  have G1 : Hid (w.heap.size ≤ h1) := by rw [hh1]; exact Nat.le_refl _
  clear hw1e hh1
  have H1 := Lib.hid hb1
  clear hb1
  go_wp2_with fail
  refine (bits_any s _ (by omega)).mono ?_
  rintro e w2 ⟨r, rfl, hbr⟩
  obtain ⟨A1, c1, rfl⟩ := hbr.shape
  have HB : Hid (Both w ((w2).alloc (.cells #[.slice A1 (bitsS s).length c1, .int .i64 0] 29)) h1 w2.heap.size s 0) := by
    obtain ⟨q1, q2⟩ := hbr
    have o1 : Only (fun _ => False) w1 (w2.alloc (.cells #[.slice A1 (bitsS s).length c1, .int .i64 0] 29)) := (Only.of_below q2).alloc _
    refine ⟨hd1.only o1, ⟨A1, c1, Blk.new _ _ _, Nat.zero_le _, own_only (own_base q1) ((Only.refl (fun _ => False) _).alloc _) (fun _ _ e => e)⟩, below_only H1.out o1 H1.out.size (by rintro i e; cases e), G1.out, ?_⟩
    exact Nat.le_trans H1.out.size q2.size
  clear hbr hd1
  go_wp2_with fail
  obtain ⟨h2, hh2⟩ : ∃ h2, h2 = w2.heap.size := ⟨_, rfl⟩
  obtain ⟨w3, hw3e⟩ : ∃ w3, w3 = w2.alloc (.cells #[.slice A1 (bitsS s).length c1, .int .i64 0] 29) := ⟨_, rfl⟩
  rw [← hw3e, ← hh2] at HB
  rw [← hw3e, ← hh2]
  clear hw3e hh2
  have hlb := length_bitsS s
  have Hlb := Lib.hid hlb
  clear hlb
  have HA := Lib.hid hA
  clear hA
  go_loopg [7] n (fun g i wr => ∃ k a : Nat, k + g = n ∧ i = .int .i64 k ∧ Both w wr h1 h2 s a)
  case atStart => exact ⟨0, 0, by omega, rfl, HB.out⟩
  case round =>
    obtain ⟨k, a, hk, rfl, hboth⟩ := hrel
    clear HB
    by_cases hlt : k < n ∧ k < 100
    · obtain ⟨hkn, hk100⟩ := hlt
      obtain ⟨b, off, rfl, m1, hcells⟩ := HA.out (by omega)
      obtain ⟨e1, e2⟩ := hcells k hkn
      clear hcells
      have d1 : wr.cell? ⟨b, off + k * 2, none⟩ = some (.int .i64 (K k)) := (hboth.2.2.1.cell m1).trans e1
      have d2 : wr.cell? ⟨b, off + k * 2 + 1, none⟩ = some (.int .i64 (N k)) := (hboth.2.2.1.cell m1).trans e2
      have hbh1 : b < h1 := by have := hboth.2.2.2.1; omega
      have hbh2 : b < h2 := by have := hboth.2.2.2.2; omega
      clear e1 e2
      go_upto_block 2 with fail
      go_cut [] (fun wx => ∃ a', Both w wx h1 h2 s a')
      case first =>
        by_cases k0 : K k = 0
        · have b0 : (K k == 0) = true := by rw [k0]; rfl
          clear k0
          go_wp2_with fail
          refine (rbitof_any h1 s a _ hboth.1 (by omega)).mono ?_
          rintro e w4 ⟨rfl, r4⟩
          have hr4 := RrAt.kept hboth.1 hboth.2.1 r4.2
          have R4 := Lib.hid r4
          clear r4
          go_wp2_with fail
          refine (rrbit_S h2 s a _ hr4 hs).mono ?_
          rintro e w5 ⟨rfl, r5⟩
          have R5 := Lib.hid r5
          clear r5
          go_wp2_with fail
          go_meet
          exact ⟨_, Both.step hboth R4.out R5.out⟩
        · have b0 : (K k == 0) = false := by rw [beq_eq_false_iff_ne]; exact k0
          clear k0
          by_cases k1 : K k = 1
          · have b1 : (K k == 1) = true := by rw [k1]; rfl
            clear k1
            go_wp2_with fail
            refine (take_any h1 s a (N k) _ hboth.1 (by omega)).mono ?_
            rintro e w4 ⟨rfl, r4⟩
            have hr4 := RrAt.kept hboth.1 hboth.2.1 r4.2
            have d3 : w4.cell? ⟨b, off + k * 2 + 1, none⟩ = some (.int .i64 (N k)) := (r4.2.cell (World.block_lt_of_cell? wr _ d2) (by simp; omega)).trans d2
            have R4 := Lib.hid r4
            clear r4
            go_wp2_with fail
            refine (rtake_S h2 s a (N k) _ hr4 hs).mono ?_
            rintro e w5 ⟨rfl, r5⟩
            have R5 := Lib.hid r5
            clear r5
            go_wp2_with fail
            go_meet
            exact ⟨_, Both.step hboth R4.out R5.out⟩
          · have b1 : (K k == 1) = false := by rw [beq_eq_false_iff_ne]; exact k1
            clear k1
            by_cases k2 : K k = 2
            · have b2 : (K k == 2) = true := by rw [k2]; rfl
              clear k2
              go_upto_region 18 with fail
              go_cut [103] (fun s103 wx => s103 = .bool false ∧ ∃ a', Both w wx h1 h2 s a')
              case first =>
                have HBo : Hid (Both w wr.drew h1 h2 s a) := ⟨hboth.1, hboth.2.1, hboth.2.2.1.drew, hboth.2.2.2⟩
                clear hboth
                go_region_with (first
                  | (go_at_call_of 19 (Value.pointer (some { block := h1, off := 0 })); refine (seek_any h1 s a (N k) _ (by first | exact HBo.out.1 | exact RdAt.kept HBo.out.1 HBo.out.2.1 (by assumption)) (by omega)).mono ?_; rintro e w4 ⟨rfl, rd, ro⟩; have d4 : w4.cell? ⟨b, off + k * 2 + 1, none⟩ = some (.int .i64 (N k)) := (ro.cell (World.block_lt_of_cell? _ _ (by assumption)) (by simp; omega)).trans (by assumption))
                  | (go_at_call 20; refine (rseek_S h2 s a (N k) _ (by first | exact HBo.out.2.1 | exact RrAt.kept HBo.out.1 HBo.out.2.1 (by assumption)) hs).mono ?_; rintro e w5 ⟨rfl, qd, qo⟩; have d5 : w5.cell? ⟨b, off + k * 2 + 1, none⟩ = some (.int .i64 (N k)) := (qo.cell (World.block_lt_of_cell? _ _ (by assumption)) (by simp; omega)).trans (by assumption)))
                all_goals
                  go_wp2_with fail
                  go_meet
                  first | exact ⟨rfl, _, Both.step HBo.out ⟨rd, ro⟩ ⟨qd, qo⟩⟩ | exact ⟨rfl, _, Both.step' HBo.out ⟨qd, qo⟩ ⟨rd, ro⟩⟩
              case rest =>
                obtain ⟨rfl, hrest⟩ := hcut
                clear hboth d1 d2
                go_wp2_with fail
                go_meet
                exact hrest
            · have b2 : (K k == 2) = false := by rw [beq_eq_false_iff_ne]; exact k2
              clear k2
              go_wp2_with fail
              go_meet
              exact ⟨a, hboth⟩
      case rest =>
        obtain ⟨a', hboth'⟩ := hcut
        clear hboth d1 d2
        obtain ⟨g1, g2, g3⟩ := hboth'
        have HR := Lib.hid (And.intro g1 (And.intro g2 g3))
        clear g3
        obtain ⟨A2, c2, b2, l2, _⟩ := g2
        have f0 := b2.cell 0
        have f1 := b2.cell 1
        simp at f0 f1
        clear b2 l2
        have hab : a' ≤ 8 * s.size := g1.2
        have hlI : ((bitsS s).length : Int) = 8 * (s.size : Int) := by rw [Hlb.out]; omega
        go_upto_region 20 with fail
        go_quiet ((first | (go_at_call 21; exact quiet_left1 (at_any h1 s a' _ (RdAt.drewN g1 _))) | (go_at_call 22; exact quiet_more (left_any h1 s a' _ (RdAt.drewN g1 _) (by omega)))))
        clear hlI f0 f1
        go_wp2_with fail
        go_roundg (gk - 1)
        case measure => omega
        case rel =>
          obtain ⟨q1, ⟨A3, c3, q2, q3, q4⟩, q5, q6⟩ := HR.out
          exact ⟨k + 1, a', by omega, by go_num, RdAt.drewN q1 _, ⟨A3, c3, q2.drewN _, q3, q4⟩, below_drewN q5 _, q6⟩
    · have hbel := hboth.2.2.1
      by_cases hkn : k < n
      · have hk100 : ¬ k < 100 := fun h => hlt ⟨hkn, h⟩
        clear hlt
        go_wp2_with fail
        refine (awake_any _).mono ?_
        rintro e w6 ⟨rfl, hb6⟩
        have H6 := Lib.hid (hbel.trans (hb6.mono hbel.size))
        clear hb6
        go_wp2_with fail
        go_ret
        exact ⟨rfl, H6.out⟩
      · clear hlt
        go_wp2_with fail
        refine (awake_any _).mono ?_
        rintro e w6 ⟨rfl, hb6⟩
        have H6 := Lib.hid (hbel.trans (hb6.mono hbel.size))
        clear hb6
        go_wp2_with fail
        go_ret
        exact ⟨rfl, H6.out⟩
end Go.Proofs.Ytmgngmnkmmhckaa
