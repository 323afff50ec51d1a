/-
  codes: a number in Gamma is read.
-/
import Derived.Test.YtmgngmnkmmhckaaCZeros
import Derived.Deep.RegionWith
set_option linter.unusedVariables false
namespace Go.Proofs.Ytmgngmnkmmhckaa
open Go.RowKit Plain

theorem zr_le (B : List Bool) (N : Nat) : ∀ (f a n : Nat), n + f ≤ N + 1 → (zr B a n f).1 ≤ N
  | 0, a, n, h => by simp [zr]
  | f + 1, a, n, h => by
    unfold zr
    split
    · exact Nat.zero_le _
    · split
      · show n ≤ N; omega
      · exact zr_le B N f (a + 1) (n + 1) (by omega)
/-- what is read in Gamma -/
def gm (B : List Bool) (a most : Nat) : Nat × Nat × Bool :=
  (takeVal B (zr B a 0 (most + 1)).2.1 (zr B a 0 (most + 1)).1 + 2 ^ (zr B a 0 (most + 1)).1 - 1, takeAt B.length (zr B a 0 (most + 1)).2.1 (zr B a 0 (most + 1)).1,
    (zr B a 0 (most + 1)).2.2 || takeCode B.length (zr B a 0 (most + 1)).2.1 (zr B a 0 (most + 1)).1 != 0)
theorem takeVal_lt (B : List Bool) (a n : Nat) : takeVal B a n < 2 ^ n := by
  unfold takeVal
  split
  · exact num_take_lt _ _
  · exact Nat.two_pow_pos n
theorem RgTo.drewN {w w' : World} {g h a : Nat} {s : ByteArray} {b : Bool} (p : RgTo w g h s a b w') (k : Nat) : RgTo w g h s a b (w'.drewN k) := ⟨p.1, p.2.drewN k⟩

set_option maxRecDepth 100000 in
set_option maxHeartbeats 4000000 in
theorem gamma_any (g h : Nat) (s : ByteArray) (a most : Nat) (w : World) (hw : RgAt w g h s a false) (hs : s.size ≤ 140737488355328) (hm : most ≤ 47) :
    Calls Try.prog 66 #[.pointer (some ⟨g, 0, none⟩), .int .i64 most] w fun e w' => e = .returned (.int .u64 (gm (bitsS s) a most).1) ∧ RgTo w g h s (gm (bitsS s) a most).2.1 (gm (bitsS s) a most).2.2 w' := by
  have Hw := Lib.hid (And.intro hw hs)
  obtain ⟨G, hG⟩ : ∃ G, G = gm (bitsS s) a most := ⟨_, rfl⟩
  obtain ⟨Z, hZ⟩ : ∃ Z, Z = zr (bitsS s) a 0 (most + 1) := ⟨_, rfl⟩
  have hb := zr_le (bitsS s) most (most + 1) a 0 (by omega)
  rw [← hZ] at hb
  rw [← hG]
  unfold gm at hG
  rw [← hZ] at hG
  obtain ⟨b, a1, bad⟩ := Z
  simp only at hb hG
  have hv := takeVal_lt (bitsS s) a1 b
  obtain ⟨V, hV⟩ : ∃ V, V = takeVal (bitsS s) a1 b := ⟨_, rfl⟩
  rw [← hV] at hv hG
  obtain ⟨P, hP⟩ : ∃ P, P = 2 ^ b := ⟨_, rfl⟩
  have hwr := shl64 hP (by omega)
  have hP48 : P ≤ 140737488355328 := by
    rw [hP]; have h2 : 2 ^ b ≤ 2 ^ 47 := Nat.pow_le_pow_right (by decide) (by omega)
    have e : (2 : Nat) ^ 47 = 140737488355328 := by decide
    omega
  rw [← hP] at hv hG
  have hres : IntKind.u64.wrap ((V : Int) + (P : Int)) = ((V : Int) + (P : Int)) := by
    rw [show ((V : Int) + (P : Int)) = ((V + P : Nat) : Int) by omega]; exact wrap_nat64 _ (by omega)
  have hres2 : IntKind.u64.wrap ((V : Int) + (P : Int) - 1) = ((V : Int) + (P : Int) - 1) := by
    rw [show ((V : Int) + (P : Int) - 1) = ((V + P - 1 : Nat) : Int) by omega]; exact wrap_nat64 _ (by omega)
  have HG := Lib.hid (And.intro hG (And.intro hZ (And.intro hV (show (((V + P - 1 : Nat)) : Int) = (V : Int) + (P : Int) - 1 by omega))))
  clear hG hZ hV hw hs hP48 hv hP
  have hb47 : b ≤ 47 := by omega
  go_enter Try.func66, Try.ntmps66
  go_wp2_with fail
  refine (zeros_any g h s a most _ Hw.out.1 Hw.out.2 (by omega)).mono ?_
  rintro e w1 ⟨rfl, hp⟩
  rw [← HG.out.2.1] at hp
  rw [← HG.out.2.1]
  simp only at hp ⊢
  have H1 := Lib.hid hp
  clear hp
  go_wp2_with fail
  go_region_with ((go_at_call 67; refine (gtake_any g h s a1 bad b _ (by exact H1.out.1) Hw.out.2).mono ?_; rintro e w2 ⟨rfl, hp⟩; rw [← HG.out.2.2.1]))
  all_goals go_wp2_with fail
  all_goals go_ret
  all_goals refine ⟨?_, ?_⟩
  · have e : (G.1 : Int) = (V : Int) + (P : Int) - 1 := by rw [HG.out.1]; exact HG.out.2.2.2
    rw [e]
    first | rfl | (simp [Act.put]; done)
  · rw [HG.out.1, length_bitsS]
    exact (H1.out.drewN 1).trans hp
end Go.Proofs.Ytmgngmnkmmhckaa
