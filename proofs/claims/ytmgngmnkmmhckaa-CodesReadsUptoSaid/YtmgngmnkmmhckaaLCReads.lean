/-
  CodesReads: the law's walk.
-/
import Derived.Test.YtmgngmnkmmhckaaCRef
import Derived.Test.YtmgngmnkmmhckaaLOnce
set_option linter.unusedVariables false
namespace Go.Proofs.Ytmgngmnkmmhckaa
open Go.RowKit Plain

/-- both readers, each at its place -/
def Bo (w0 w : World) (h1 h2 : Nat) (s : ByteArray) (a b : Nat) : Prop := RdAt w h1 s a ∧ RrAt w h2 (bitsS s) b ∧ Below w0.heap.size w0 w ∧ w0.heap.size ≤ h1 ∧ w0.heap.size ≤ h2
theorem Bo.more {w0 w w' : World} {h1 h2 a b : Nat} {s : ByteArray} (x : Bo w0 w h1 h2 s a b) (k : Below w.heap.size w w') : Bo w0 w' h1 h2 s a b :=
  ⟨x.1.only (Only.of_below k), x.2.1.only (Only.of_below k), below_step x.2.2.1 k, x.2.2.2⟩
theorem Bo.d {w0 w w' : World} {h1 h2 a b a' : Nat} {s : ByteArray} (x : Bo w0 w h1 h2 s a b) (p : RdTo w h1 s a' w') : Bo w0 w' h1 h2 s a' b :=
  ⟨p.1, RrAt.kept x.1 x.2.1 p.2, below_only x.2.2.1 p.2 x.2.2.1.size (by rintro i rfl; exact x.2.2.2.1), x.2.2.2⟩
theorem Bo.r {w0 w w' : World} {h1 h2 a b b' : Nat} {s : ByteArray} (x : Bo w0 w h1 h2 s a b) (p : RrTo w h2 (bitsS s) b' w') : Bo w0 w' h1 h2 s a b' :=
  ⟨RdAt.kept x.1 x.2.1 p.2, p.1, below_only x.2.2.1 p.2 x.2.2.1.size (by rintro i rfl; exact x.2.2.2.2), x.2.2.2⟩
theorem Bo.drewN {w0 w : World} {h1 h2 a b : Nat} {s : ByteArray} (x : Bo w0 w h1 h2 s a b) (n : Nat) : Bo w0 (w.drewN n) h1 h2 s a b := by
  obtain ⟨q1, ⟨A3, c3, q2, q3, q4⟩, q5, q6⟩ := x
  exact ⟨RdAt.drewN q1 _, ⟨A3, c3, q2.drewN _, q3, q4⟩, below_drewN q5 _, q6⟩

set_option maxRecDepth 100000 in
set_option maxHeartbeats 4000000 in
theorem creads_any (s : ByteArray) (A : Option Addr) (n c : Nat) (kd K : Nat → Nat) (hKK : ∀ i, K i < 18446744073709551616) (w : World) (hs : s.size ≤ 1048576) (hn : n ≤ 9223372036854775807) (hA : ScC w A n kd K) :
    Calls Try.prog 8 #[.string s, .slice A n c] w fun e w' => e = .returned (.bool true) ∧ Below w.heap.size w w' := by
  have HA := Lib.hid hA
  have HK := Lib.hid hKK
  have HS := Lib.hid (And.intro (show s.size ≤ 140737488355328 by omega) (show (bitsS s).length ≤ 134217728 by rw [length_bitsS]; omega))
  clear hA hKK
  go_enter Try.func8, Try.ntmps8
  go_wp2_with fail
  refine (open_any _ _).mono ?_
  rintro e w1 ⟨rfl, rfl⟩
  have hd1 := RdAt.new w s
  have hb1 : Below w.heap.size w (w.alloc (.cells #[.string s, .int .i64 0] 88)) := (Below.refl _ _).alloc (Nat.le_refl _) _
  obtain ⟨h1, hh1⟩ : ∃ h1, h1 = w.heap.size := ⟨_, rfl⟩
  obtain ⟨w1, hw1e⟩ : ∃ w1, w1 = w.alloc (.cells #[.string s, .int .i64 0] 88) := ⟨_, rfl⟩
  rw [← hw1e] at hd1 hb1 ⊢
  rw [← hh1] at hd1 ⊢
  have G1 : Hid (w.heap.size ≤ h1) := by rw [hh1]; exact Nat.le_refl _
  clear hw1e hh1
  have H1 := Lib.hid hb1
  clear hb1
  go_wp2_with fail
  refine (bits_any s _ (by omega)).mono ?_
  rintro e w2 ⟨r, rfl, hbr⟩
  obtain ⟨A1, c1, rfl⟩ := hbr.shape
  have HB : Hid (Bo w ((w2).alloc (.cells #[.slice A1 (bitsS s).length c1, .int .i64 0] 29)) h1 w2.heap.size s 0 0) := by
    obtain ⟨q1, q2⟩ := hbr
    have o1 : Only (fun _ => False) w1 (w2.alloc (.cells #[.slice A1 (bitsS s).length c1, .int .i64 0] 29)) := (Only.of_below q2).alloc _
    refine ⟨hd1.only o1, ⟨A1, c1, Blk.new _ _ _, Nat.zero_le _, own_only (own_base q1) ((Only.refl (fun _ => False) _).alloc _) (fun _ _ e => e)⟩, below_only H1.out o1 H1.out.size (by rintro i e; cases e), G1.out, ?_⟩
    exact Nat.le_trans H1.out.size q2.size
  clear hbr hd1
  go_wp2_with fail
  obtain ⟨h2, hh2⟩ : ∃ h2, h2 = w2.heap.size := ⟨_, rfl⟩
  obtain ⟨w3, hw3e⟩ : ∃ w3, w3 = w2.alloc (.cells #[.slice A1 (bitsS s).length c1, .int .i64 0] 29) := ⟨_, rfl⟩
  rw [← hw3e, ← hh2] at HB
  rw [← hw3e, ← hh2]
  clear hw3e hh2
  go_loopg [7] n (fun g i wr => ∃ k a : Nat, k + g = n ∧ i = .int .i64 k ∧ Bo w wr h1 h2 s a a)
  case atStart => exact ⟨0, 0, by omega, rfl, HB.out⟩
  case round =>
    obtain ⟨k, a, hk, rfl, hon⟩ := hrel
    have HO := Lib.hid hon
    clear hon HB
    by_cases hlt : k < n ∧ k < 100
    · obtain ⟨hkn, hk100⟩ := hlt
      obtain ⟨b, off, rfl, m1, hcells⟩ := HA.out (by omega)
      obtain ⟨e1, e2⟩ := hcells k hkn
      have HC := Lib.hid (And.intro m1 (And.intro e1 e2))
      clear hcells m1 e1 e2
      obtain ⟨kk, hkk⟩ : ∃ kk, kk = kd k := ⟨_, rfl⟩
      obtain ⟨KK, hKK⟩ : ∃ KK, KK = K k := ⟨_, rfl⟩
      have hKl : KK < 18446744073709551616 := by rw [hKK]; exact HK.out k
      rw [← hkk, ← hKK] at HC
      have HKl := Lib.hid hKl
      clear hkk hKK hKl
      have d1 := (HO.out.2.2.1.cell HC.out.1).trans HC.out.2.1
      have d2 := (HO.out.2.2.1.cell HC.out.1).trans HC.out.2.2
      go_wp2_with fail
      refine (own_any kk KK _).mono ?_
      rintro e w4 ⟨rfl, hb⟩
      have H4 := Lib.hid (HO.out.more hb)
      clear hb d1 d2
      go_wp2_with fail
      refine (cread_any h1 s a kk KK _ H4.out.1 HS.out.1 HKl.out).mono ?_
      rintro e w5 ⟨rfl, hp⟩
      have H5 := Lib.hid (H4.out.d hp)
      clear hp H4
      have d1 := (H5.out.2.2.1.cell HC.out.1).trans HC.out.2.1
      have d2 := (H5.out.2.2.1.cell HC.out.1).trans HC.out.2.2
      obtain ⟨V, hV⟩ : ∃ V, V = rV (bitsS s) a kk KK := ⟨_, rfl⟩
      obtain ⟨E, hE⟩ : ∃ E, E = rE (bitsS s) a kk KK := ⟨_, rfl⟩
      obtain ⟨a1, ha1⟩ : ∃ a1, a1 = rA (bitsS s) a kk KK := ⟨_, rfl⟩
      rw [← ha1] at H5
      rw [← hV, ← hE]
      have HE := Lib.hid (And.intro hV (And.intro hE ha1))
      clear hV hE ha1
      go_wp2_with fail
      refine (rread_any h2 (bitsS s) a kk KK _ H5.out.2.1 HS.out.2 HKl.out).mono ?_
      rintro e w6 ⟨rfl, hp⟩
      rw [← HE.out.1, ← HE.out.2.1]
      rw [← HE.out.2.2] at hp
      have H6 := Lib.hid (H5.out.r hp)
      clear hp H5 d1 d2
      obtain ⟨_, f1, _⟩ := H6.out.2.1.cell1
      have f0 := H6.out.2.1.cell1.1
      have hab : a1 ≤ 8 * s.size := H6.out.1.2
      go_upto_region 8 with fail
      go_quiet ((go_at_call 21; exact quiet_left1 (at_any h1 s a1 _ (RdAt.drewN H6.out.1 _))))
      clear f0 f1
      go_wp2_with fail
      go_roundg (gk - 1)
      case measure => omega
      case rel => exact ⟨k + 1, a1, by omega, by go_num, H6.out.drewN _⟩
    · have hbel := Lib.hid HO.out.2.2.1
      by_cases hkn : k < n
      · have hk60 : ¬ k < 100 := fun h => hlt ⟨hkn, h⟩
        clear hlt
        go_wp2_with fail
        refine (caw_any _).mono ?_
        rintro e w6 ⟨rfl, hb6⟩
        have H6 := Lib.hid (below_step hbel.out hb6)
        clear hb6
        go_wp2_with fail
        go_ret
        exact ⟨rfl, H6.out⟩
      · clear hlt
        go_wp2_with fail
        refine (caw_any _).mono ?_
        rintro e w6 ⟨rfl, hb6⟩
        have H6 := Lib.hid (below_step hbel.out hb6)
        clear hb6
        go_wp2_with fail
        go_ret
        exact ⟨rfl, H6.out⟩
end Go.Proofs.Ytmgngmnkmmhckaa
