/-
  CodesOnce: the law's walk.
-/
import Derived.Test.YtmgngmnkmmhckaaCAny
import Derived.Test.YtmgngmnkmmhckaaCAwake
set_option linter.unusedVariables false
namespace Go.Proofs.Ytmgngmnkmmhckaa
open Go.RowKit Plain

set_option maxRecDepth 100000 in
set_option maxHeartbeats 4000000 in
theorem own_any (kd K : Nat) (w : World) : Calls Try.prog 38 #[.agg #[.int .u8 kd, .int .u64 K]] w fun e w' => e = .returned (.agg #[.int .u8 kd, .int .u64 K]) ∧ Below w.heap.size w w' := by
  have B2 : Blk ((w.alloc (.cells #[.int .u8 kd, .int .u64 K] 73)).alloc (.cells #[.int .u8 kd, .int .u64 K] 71)) (w.heap.size + 1) 71 #[.int .u8 kd, .int .u64 K] := by
    have := Blk.new (w.alloc (.cells #[.int .u8 kd, .int .u64 K] 73)) 71 #[.int .u8 kd, .int .u64 K]
    rw [World.size_alloc] at this
    exact this
  have HB := Lib.hid (And.intro B2 (show Below w.heap.size w ((w.alloc (.cells #[.int .u8 kd, .int .u64 K] 73)).alloc (.cells #[.int .u8 kd, .int .u64 K] 71)) from ((Below.refl _ w).alloc (Nat.le_refl _) _).alloc (by rw [World.size_alloc]; omega) _))
  clear B2
  go_enter Try.func38, Try.ntmps38
  go_wp2_with fail
  refine bodyPost_ret (results_cell_row rfl _ _ (w.heap.size + 1) 71 #[.int .u8 kd, .int .u64 K] (0, 0) _ rfl HB.out.1 Try.underlying71 rfl (by kernel_rfl)) rfl ?_
  exact ⟨rfl, HB.out.2⟩

/-- the codes in memory -/
def ScC (w : World) (A : Option Addr) (n : Nat) (kd K : Nat → Nat) : Prop :=
  0 < n → ∃ b off, A = some ⟨b, off, none⟩ ∧ b < w.heap.size ∧ ∀ i, i < n → w.cell? ⟨b, off + i * 2, none⟩ = some (.int .u8 (kd i : Nat)) ∧ w.cell? ⟨b, off + i * 2 + 1, none⟩ = some (.int .u64 (K i : Nat))
theorem once_no {B : List Bool} {a kd K : Nat} (h : rE B a kd K ≠ 0) : rV B a kd K = 0 ∧ rA B a kd K = a := by
  unfold rE at h
  unfold rV rA
  split
  · rename_i hok
    rw [if_pos hok] at h
    split
    · exact ⟨rfl, rfl⟩
    · rename_i hb
      rw [if_neg hb] at h
      exact absurd rfl h
  · exact ⟨rfl, rfl⟩
theorem once_yes {B : List Bool} {a kd K : Nat} (ha : a ≤ B.length) (h : rE B a kd K = 0) : cMay kd K (rV B a kd K) = true ∧ rA B a kd K = a + (cb kd K (rV B a kd K)).length ∧ Pre B a (cb kd K (rV B a kd K)) := by
  unfold rE at h
  unfold rV rA
  cases hok : cOk kd K with
  | false => rw [hok, if_neg (by decide)] at h; exact absurd h (by decide)
  | true =>
    rw [hok, if_pos rfl] at h
    rw [if_pos rfl, if_pos rfl]
    cases hb : rdBad kd K (rd B a kd K).1 (rd B a kd K).2.2 with
    | true => rw [hb, if_pos rfl] at h; exact absurd h (by decide)
    | false =>
      rw [if_neg (by decide), if_neg (by decide)]
      unfold rdBad at hb
      simp only [Bool.or_eq_false_iff, decide_eq_false_iff_not] at hb
      obtain ⟨v, q1, q2, q3⟩ := rd_bwd ha hok hb.1 (by omega)
      rw [q2]
      exact ⟨q1, rfl, q3⟩
theorem bit_at {h a : Nat} {s : ByteArray} {w : World} {b : Bool} (hw : RdAt w h s a) (hs : s.size ≤ 140737488355328) (ha : a < 8 * s.size) (hb : (bitsS s).getD a false = b) :
    Calls Try.prog 15 #[.pointer (some ⟨h, 0, none⟩)] w fun e w' => e = .returned (.tuple #[.bool b, .int .i64 0]) ∧ RdTo w h s (a + 1) w' := by
  have hl := length_bitsS s
  have hp := getD_one (B := bitsS s) (a := a) (by omega)
  rw [← bits_one, hb] at hp
  obtain ⟨t1, t2, t3⟩ := tk_fwd (n := 1) (by decide) (by cases b <;> decide) hp
  rw [hl] at t2 t3
  have := rbitof_any h s a w hw hs
  rw [show ((1 : Nat) : Int) = 1 from rfl] at t1 t2 t3
  rw [t1, t2, show takeCode (8 * s.size) a 1 = 0 by simpa using t3] at this
  rw [show (((b.toNat : Nat) : Int) == 1) = b by cases b <;> rfl] at this
  exact this

/-- where the inner loop stands: the law's reader, the writer, the two readers that are compared -/
structure OnS (W w : World) (r : Nat) (s : ByteArray) (a : Nat) (h : Nat) (o : Option Nat) (L : List Bool) (x : Nat) (t : ByteArray) (j y b : Nat) : Prop where
  rr : RdAt w r s a
  ww : WrAt w h o L
  xx : RdAt w x t j
  yy : RdAt w y s b
  below : Below W.heap.size W w
  gr : W.heap.size ≤ r
  gx : W.heap.size ≤ x
  gy : W.heap.size ≤ y
  rx : r ≠ x
  ry : r ≠ y
  xy : x ≠ y
theorem RdAt.far_ {w w' : World} {h x a : Nat} {s : ByteArray} (d : RdAt w h s a) (hne : h ≠ x) (ho : Only (fun k => k = x) w w') : RdAt w' h s a := ⟨d.1.only ho hne, d.2⟩
theorem OnS.stepX {W w w' : World} {r a h x j y b j' : Nat} {s t : ByteArray} {o : Option Nat} {L : List Bool} (q : OnS W w r s a h o L x t j y b) (p : RdTo w x t j' w') : OnS W w' r s a h o L x t j' y b :=
  ⟨q.rr.far_ q.rx p.2, q.ww.only p.2 (WrAt.rd_ne q.ww q.xx), p.1, q.yy.far_ (fun e => q.xy e.symm) p.2, below_only q.below p.2 q.below.size (by rintro i rfl; exact q.gx), q.gr, q.gx, q.gy, q.rx, q.ry, q.xy⟩
theorem OnS.stepY {W w w' : World} {r a h x j y b b' : Nat} {s t : ByteArray} {o : Option Nat} {L : List Bool} (q : OnS W w r s a h o L x t j y b) (p : RdTo w y s b' w') : OnS W w' r s a h o L x t j y b' :=
  ⟨q.rr.far_ q.ry p.2, q.ww.only p.2 (WrAt.rd_ne q.ww q.yy), q.xx.far_ q.xy p.2, p.1, below_only q.below p.2 q.below.size (by rintro i rfl; exact q.gy), q.gr, q.gx, q.gy, q.rx, q.ry, q.xy⟩
/-- the outer loop: the law's reader -/
def OnR (W w : World) (r : Nat) (s : ByteArray) (a : Nat) : Prop := RdAt w r s a ∧ Below W.heap.size W w ∧ W.heap.size ≤ r
theorem OnR.more {W w w' : World} {r a : Nat} {s : ByteArray} (x : OnR W w r s a) (k : Below w.heap.size w w') : OnR W w' r s a :=
  ⟨x.1.only (Only.of_below (F := fun _ => False) k), below_step x.2.1 k, x.2.2⟩
theorem OnR.step {W w w' : World} {r a a' : Nat} {s : ByteArray} (x : OnR W w r s a) (p : RdTo w r s a' w') : OnR W w' r s a' :=
  ⟨p.1, below_only x.2.1 p.2 x.2.1.size (by rintro i rfl; exact x.2.2), x.2.2⟩
theorem OnR.use {W w : World} {r a : Nat} {s : ByteArray} {A : Option Addr} {n : Nat} {kd K : Nat → Nat} {b off : Nat} {v : Value} {k : Nat} (x : OnR W w r s a) (m1 : b < W.heap.size) (e : W.cell? ⟨b, k, none⟩ = some v) : w.cell? ⟨b, k, none⟩ = some v :=
  (x.2.1.cell m1).trans e
end Go.Proofs.Ytmgngmnkmmhckaa
