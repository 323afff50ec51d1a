/-
  codes: a number is read, at each kind.
-/
import Derived.Test.YtmgngmnkmmhckaaCNum
set_option linter.unusedVariables false
namespace Go.Proofs.Ytmgngmnkmmhckaa
open Go.RowKit Plain

set_option maxRecDepth 100000 in
set_option maxHeartbeats 4000000 in
theorem nm_unary (K : Nat) (s : ByteArray) (a : Nat) (hs : s.size ≤ 140737488355328) : Nm 0 K s a (zr (bitsS s) a 0 65536).1 (zr (bitsS s) a 0 65536).2.1 (zr (bitsS s) a 0 65536).2.2 := by
  intro g h w hw
  have hw2 : Hid (RgTo w g h s a false (w.alloc (.cells #[.int .u8 0, .int .u64 K] 71))) := ⟨⟨hw.1.alloc _, hw.2.1.alloc _, hw.2.2⟩, (Only.refl _ _).alloc _⟩
  have hle := zr_le (bitsS s) 65535 65536 a 0 (by decide)
  obtain ⟨Z, hZ⟩ : ∃ Z, Z = zr (bitsS s) a 0 65536 := ⟨_, rfl⟩
  have HT : Hid (∀ w, RgAt w g h s a false → Calls Try.prog 65 #[.pointer (some ⟨g, 0, none⟩), .int .i64 65535] w fun e w' => e = .returned (.int .i64 (Z.1 : Nat)) ∧ RgTo w g h s Z.2.1 Z.2.2 w') := by
    intro w hw
    have := zeros_any g h s a 65535 w hw hs (by decide)
    rw [← hZ] at this
    exact this
  rw [← hZ] at hle
  rw [← hZ]
  clear hZ hw
  obtain ⟨z, a1, b⟩ := Z
  simp only at hle HT ⊢
  go_enter Try.func56, Try.ntmps56
  go_wp2_with fail
  refine (HT.out _ hw2.out.1).mono ?_
  rintro e w' ⟨rfl, hp⟩
  have H1 := Lib.hid (hw2.out.trans hp)
  clear hp
  go_wp2_with fail
  go_ret
  exact ⟨rfl, H1.out⟩

set_option maxRecDepth 100000 in
set_option maxHeartbeats 4000000 in
theorem nm_delta (K : Nat) (s : ByteArray) (a : Nat) (hs : s.size ≤ 140737488355328) : Nm 2 K s a (rDel (bitsS s) (gm (bitsS s) a 5)).1 (rDel (bitsS s) (gm (bitsS s) a 5)).2.1 (rDel (bitsS s) (gm (bitsS s) a 5)).2.2 := by
  intro g h w hw
  have hw2 : Hid (RgTo w g h s a false (w.alloc (.cells #[.int .u8 2, .int .u64 K] 71))) := ⟨⟨hw.1.alloc _, hw.2.1.alloc _, hw.2.2⟩, (Only.refl _ _).alloc _⟩
  obtain ⟨G, hG⟩ : ∃ G, G = gm (bitsS s) a 5 := ⟨_, rfl⟩
  have HT : Hid (∀ w, RgAt w g h s a false → Calls Try.prog 66 #[.pointer (some ⟨g, 0, none⟩), .int .i64 5] w fun e w' => e = .returned (.int .u64 (G.1 : Nat)) ∧ RgTo w g h s G.2.1 G.2.2 w') := by
    intro w hw
    have := gamma_any g h s a 5 w hw hs (by decide)
    rw [← hG] at this
    exact this
  rw [← hG]
  clear hG hw
  obtain ⟨b, a1, bad⟩ := G
  obtain ⟨D, hD⟩ : ∃ D, D = rDel (bitsS s) (b, a1, bad) := ⟨_, rfl⟩
  rw [← hD]
  unfold rDel at hD
  rw [length_bitsS] at hD
  simp only at hD HT
  by_cases h47 : 47 < b
  · rw [if_pos h47] at hD
    have HD := Lib.hid hD
    clear hD
    go_enter Try.func56, Try.ntmps56
    go_wp2_with fail
    refine (HT.out _ hw2.out.1).mono ?_
    rintro e w' ⟨rfl, hp⟩
    have H1 := Lib.hid (hw2.out.trans hp)
    have c1 := hp.1.1.cell 1
    have f1 := hp.1.1.frozen 1
    simp at c1
    clear hp
    go_wp2_with fail
    go_ret
    rw [HD.out]
    exact ⟨rfl, H1.out.spoil⟩
  · rw [if_neg h47] at hD
    have hlt := takeVal_lt (bitsS s) a1 b
    obtain ⟨V, hV⟩ : ∃ V, V = takeVal (bitsS s) a1 (b : Nat) := ⟨_, rfl⟩
    rw [← hV] at hD hlt
    have HT2 : Hid (∀ w, RgAt w g h s a1 bad → Calls Try.prog 67 #[.pointer (some ⟨g, 0, none⟩), .int .i64 b] w fun e w' => e = .returned (.int .u64 (V : Nat)) ∧ RgTo w g h s (takeAt (8 * s.size) a1 b) (bad || takeCode (8 * s.size) a1 b != 0) w') := by
      intro w hw
      have := gtake_any g h s a1 bad b w hw hs
      rw [← hV] at this
      exact this
    obtain ⟨P, hP⟩ : ∃ P, P = 2 ^ b := ⟨_, rfl⟩
    have hwr := shl64 hP (by omega)
    have hP1 : 1 ≤ P := by rw [hP]; exact Nat.one_le_two_pow
    have hP48 : P ≤ 140737488355328 := by
      rw [hP]; have h2 : 2 ^ b ≤ 2 ^ 47 := Nat.pow_le_pow_right (by decide) (by omega)
      have e : (2 : Nat) ^ 47 = 140737488355328 := by decide
      omega
    rw [← hP] at hlt hD
    have hres : IntKind.u64.wrap ((V : Int) + (P : Int)) = ((V : Int) + (P : Int)) := by
      rw [show ((V : Int) + (P : Int)) = ((V + P : Nat) : Int) by omega]; exact wrap_nat64 _ (by omega)
    have hres2 : IntKind.u64.wrap ((V : Int) + (P : Int) - 1) = ((V + P - 1 : Nat) : Int) := by
      rw [show ((V : Int) + (P : Int) - 1) = ((V + P - 1 : Nat) : Int) by omega]; exact wrap_nat64 _ (by omega)
    have HD := Lib.hid hD
    have hb47 : b ≤ 47 := by omega
    clear hD hP hV hlt hP1 hP48 h47
    go_enter Try.func56, Try.ntmps56
    go_wp2_with fail
    refine (HT.out _ hw2.out.1).mono ?_
    rintro e w' ⟨rfl, hp⟩
    have H1 := Lib.hid (hw2.out.trans hp)
    clear hp
    go_wp2_with fail
    refine (HT2.out _ H1.out.1).mono ?_
    rintro e w2 ⟨rfl, hp⟩
    have H2 := Lib.hid (H1.out.trans hp)
    clear hp
    go_wp2_with fail
    go_ret
    rw [HD.out]
    exact ⟨rfl, H2.out⟩

set_option maxRecDepth 100000 in
set_option maxHeartbeats 4000000 in
theorem nm_min (K : Nat) (s : ByteArray) (a : Nat) (hs : s.size ≤ 140737488355328) (h1 : 1 ≤ K) (h2 : K ≤ 281474976710655) : Nm 4 K s a (rSh (bitsS s) a K).1 (rSh (bitsS s) a K).2.1 (rSh (bitsS s) a K).2.2 := by
  intro g h w hw
  have hw2 : Hid (RgTo w g h s a false (w.alloc (.cells #[.int .u8 4, .int .u64 K] 71))) := ⟨⟨hw.1.alloc _, hw.2.1.alloc _, hw.2.2⟩, (Only.refl _ _).alloc _⟩
  have hx : K ≤ 2 ^ 63 := by have e : (2 : Nat) ^ 63 = 9223372036854775808 := by decide
                             omega
  have HS := Lib.hid (And.intro hs (And.intro h1 hx))
  clear hw hx h1 h2 hs
  go_enter Try.func56, Try.ntmps56
  go_wp2_with fail
  refine (gshort_any g h s a K false _ hw2.out.1 HS.out.1 HS.out.2.1 HS.out.2.2).mono ?_
  rintro e w' ⟨rfl, hp⟩
  have H1 := Lib.hid (hw2.out.trans hp)
  clear hp
  go_wp2_with fail
  go_ret
  exact ⟨rfl, by simpa using H1.out⟩

set_option maxRecDepth 100000 in
set_option maxHeartbeats 4000000 in
theorem nm_zeta (K : Nat) (s : ByteArray) (a : Nat) (hs : s.size ≤ 140737488355328) (h1 : 1 ≤ K) (h2 : K ≤ 16) :
    Nm 3 K s a (rZet (bitsS s) K (zr (bitsS s) a 0 (47 / K + 1))).1 (rZet (bitsS s) K (zr (bitsS s) a 0 (47 / K + 1))).2.1 (rZet (bitsS s) K (zr (bitsS s) a 0 (47 / K + 1))).2.2 := by
  intro g h w hw
  have hw2 : Hid (RgTo w g h s a false (w.alloc (.cells #[.int .u8 3, .int .u64 K] 71))) := ⟨⟨hw.1.alloc _, hw.2.1.alloc _, hw.2.2⟩, (Only.refl _ _).alloc _⟩
  have hq : 47 / K ≤ 47 := Nat.div_le_self _ _
  have hle := zr_le (bitsS s) (47 / K) (47 / K + 1) a 0 (by omega)
  obtain ⟨q, hqq⟩ : ∃ q, q = 47 / K := ⟨_, rfl⟩
  have hqK : (47 : Int) / (K : Int) = (q : Int) := by rw [hqq]; rfl
  rw [← hqq] at hq hle
  obtain ⟨Z, hZ⟩ : ∃ Z, Z = zr (bitsS s) a 0 (q + 1) := ⟨_, rfl⟩
  have HT : Hid (∀ w, RgAt w g h s a false → Calls Try.prog 65 #[.pointer (some ⟨g, 0, none⟩), .int .i64 q] w fun e w' => e = .returned (.int .i64 (Z.1 : Nat)) ∧ RgTo w g h s Z.2.1 Z.2.2 w') := by
    intro w hw
    have := zeros_any g h s a q w hw hs (by omega)
    rw [← hZ] at this
    exact this
  rw [← hqq, ← hZ]
  rw [← hZ] at hle
  clear hZ hw
  obtain ⟨z, a1, bad⟩ := Z
  simp only at hle HT
  obtain ⟨b1, b2, b3, b4⟩ := z_bound h1 h2 (show z ≤ 47 / K by omega)
  obtain ⟨F, hF⟩ : ∃ F, F = zFr K z := ⟨_, rfl⟩
  have hF1 : 1 ≤ F := by rw [hF]; exact zFr_pos K z
  obtain ⟨D, hD⟩ : ∃ D, D = rZet (bitsS s) K (z, a1, bad) := ⟨_, rfl⟩
  rw [← hD]
  unfold rZet at hD
  simp only at hD
  rw [← hF] at hD b1 b2 b3 b4
  obtain ⟨T, hT⟩ : ∃ T, T = F * 2 ^ K := ⟨_, rfl⟩
  rw [← hT] at hD b2 b3 b4
  obtain ⟨zk, hzk⟩ : ∃ zk, zk = z * K := ⟨_, rfl⟩
  have hzk47 : zk ≤ 47 := by
    have := Nat.div_mul_le_self 47 K
    have := Nat.mul_le_mul_right K (show z ≤ 47 / K by omega)
    rw [hzk]; omega
  have hF2 : F = 2 ^ zk := by rw [hF, hzk]; rfl
  have e47 : (2 : Nat) ^ 47 = 140737488355328 := by decide
  have e63 : (2 : Nat) ^ 63 = 9223372036854775808 := by decide
  have q2 : (z : Int) * (K : Int) = (zk : Int) := by rw [hzk]; rfl
  have q3 := shl64 hF2 (by omega)
  have q5 : IntKind.u64.wrap ((F : Int) * 2 ^ K) = (T : Int) := by
    have : ((F : Int) * 2 ^ K) = (T : Int) := by rw [hT, Int.natCast_mul, Int.natCast_pow]; rfl
    rw [this]; exact wrap_nat64 _ (by omega)
  have q6 : IntKind.u64.wrap ((T : Int) - (F : Int)) = ((T - F : Nat) : Int) := by
    rw [show ((T : Int) - (F : Int)) = ((T - F : Nat) : Int) by omega]; exact wrap_nat64 _ (by omega)
  have HS : Hid (∀ w, RgAt w g h s a1 bad → Calls Try.prog 68 #[.pointer (some ⟨g, 0, none⟩), .int .u64 (T - F : Nat)] w fun e w' => e = .returned (.int .u64 (rSh (bitsS s) a1 (T - F)).1) ∧ RgTo w g h s (rSh (bitsS s) a1 (T - F)).2.1 (bad || (rSh (bitsS s) a1 (T - F)).2.2) w') :=
    fun w hw => gshort_any g h s a1 (T - F) bad w hw hs b3 b4
  have hxb := rSh_bd (bitsS s) a1 (T - F) b3 b4
  obtain ⟨X, hX⟩ : ∃ X, X = rSh (bitsS s) a1 (T - F) := ⟨_, rfl⟩
  rw [← hX] at HS hD hxb
  obtain ⟨x, a2, bad2⟩ := X
  simp only at HS hD hxb
  have q7 : IntKind.u64.wrap ((x : Int) + (F : Int)) = ((x : Int) + (F : Int)) := by
    rw [show ((x : Int) + (F : Int)) = ((x + F : Nat) : Int) by omega]; exact wrap_nat64 _ (by omega)
  have q8 : IntKind.u64.wrap ((x : Int) + (F : Int) - 1) = ((x + F - 1 : Nat) : Int) := by
    rw [show ((x : Int) + (F : Int) - 1) = ((x + F - 1 : Nat) : Int) by omega]; exact wrap_nat64 _ (by omega)
  have HD := Lib.hid hD
  have hz47 : z ≤ 47 := by omega
  clear hX hD hxb hF hF2 hT hzk b1 b2 b3 b4 e47 e63 hqq hF1 hs
  go_enter Try.func56, Try.ntmps56
  go_wp2_with fail
  refine (HT.out _ hw2.out.1).mono ?_
  rintro e w' ⟨rfl, hp⟩
  have H1 := Lib.hid (hw2.out.trans hp)
  clear hp
  go_wp2_with fail
  refine (HS.out _ H1.out.1).mono ?_
  rintro e w2 ⟨rfl, hp⟩
  have H2 := Lib.hid (H1.out.trans hp)
  clear hp
  go_wp2_with fail
  go_ret
  rw [HD.out]
  exact ⟨rfl, H2.out⟩
theorem nm_any (kd K : Nat) (s : ByteArray) (a : Nat) (hs : s.size ≤ 140737488355328) (hok : cOk kd K = true) : Nm kd K s a (rd (bitsS s) a kd K).1 (rd (bitsS s) a kd K).2.1 (rd (bitsS s) a kd K).2.2 := by
  unfold cOk at hok
  simp only [Bool.or_eq_true, Bool.and_eq_true, decide_eq_true_eq] at hok
  unfold rd
  rcases hok with (⟨x, y⟩ | ⟨x, y, z⟩) | ⟨x, y, z⟩
  · rcases (show kd = 0 ∨ kd = 1 ∨ kd = 2 by omega) with rfl | rfl | rfl
    · exact nm_unary K s a hs
    · exact nm_gamma K s a hs
    · exact nm_delta K s a hs
  · subst x; exact nm_zeta K s a hs y z
  · subst x; exact nm_min K s a hs y z
end Go.Proofs.Ytmgngmnkmmhckaa
