/-
  codes: a number is read, in Minimal and at each kind.
-/
import Derived.Test.YtmgngmnkmmhckaaCPlain2
import Derived.Test.YtmgngmnkmmhckaaCRead
set_option linter.unusedVariables false
namespace Go.Proofs.Ytmgngmnkmmhckaa
open Go.RowKit Plain

theorem RgTo.at_ {w w1 : World} {g h a : Nat} {s : ByteArray} {b : Bool} (x : RgTo w g h s a b w1) : RgAt w1 g h s a b := x.1
set_option maxRecDepth 100000 in
set_option maxHeartbeats 4000000 in
theorem gshort_any (g h : Nat) (s : ByteArray) (a k : Nat) (bad : Bool) (w : World) (hw : RgAt w g h s a bad) (hs : s.size ≤ 140737488355328) (h1 : 1 ≤ k) (h2 : k ≤ 2 ^ 63) :
    Calls Try.prog 68 #[.pointer (some ⟨g, 0, none⟩), .int .u64 k] w fun e w' => e = .returned (.int .u64 (rSh (bitsS s) a k).1) ∧ RgTo w g h s (rSh (bitsS s) a k).2.1 (bad || (rSh (bitsS s) a k).2.2) w' := by
  have Hw := Lib.hid (And.intro hw hs)
  obtain ⟨q1, q2⟩ := shS_spec h1 h2
  obtain ⟨G, hG⟩ : ∃ G, G = rSh (bitsS s) a k := ⟨_, rfl⟩
  rw [← hG]
  unfold rSh at hG
  rw [length_bitsS] at hG
  have e63 : (2 : Nat) ^ 63 = 9223372036854775808 := by decide
  have hk64 : k ≤ 9223372036854775808 := by omega
  have hlen := fun w => len64_any (k - 1) w (by omega)
  have hk1 : IntKind.u64.wrap ((k : Int) - 1) = ((k - 1 : Nat) : Int) := by
    rw [show ((k : Int) - 1) = ((k - 1 : Nat) : Int) by omega]; exact wrap_nat64 _ (by omega)
  by_cases h0 : shS k = 0
  · rw [if_pos h0] at hG
    rw [show Lib.bitLen (k - 1) = 0 from h0] at hlen
    have HL := Lib.hid hlen
    have HG := Lib.hid hG
    clear hlen hG q1 q2 e63 hk64 h0 hw hs h1 h2
    go_enter Try.func68, Try.ntmps68
    go_wp2_with fail
    refine (HL.out _).mono ?_
    rintro e w' ⟨rfl, rfl⟩
    clear HL
    go_wp2_with fail
    go_ret
    rw [HG.out]
    exact ⟨rfl, by simpa using RgTo.refl Hw.out.1⟩
  · obtain ⟨p1, p2, p3, p4⟩ := shM_lt h1 h2 h0
    rw [if_neg h0] at hG
    obtain ⟨S, hS⟩ : ∃ S, S = shS k := ⟨_, rfl⟩
    obtain ⟨m, hm⟩ : ∃ m, m = shM k := ⟨_, rfl⟩
    rw [show Lib.bitLen (k - 1) = S from hS.symm] at hlen
    rw [← hS, ← hm] at hG
    rw [← hS] at h0 p1 p2 p3 p4 q1
    rw [← hm] at p4
    have hlt := takeVal_lt (bitsS s) a (S - 1)
    have hlt1 := takeVal_lt (bitsS s) (takeAt (8 * s.size) a (S - 1 : Nat)) 1
    obtain ⟨V, hV⟩ : ∃ V, V = takeVal (bitsS s) a (S - 1 : Nat) := ⟨_, rfl⟩
    obtain ⟨A1, hA1⟩ : ∃ A1, A1 = takeAt (8 * s.size) a (S - 1 : Nat) := ⟨_, rfl⟩
    obtain ⟨C1, hC1⟩ : ∃ C1, C1 = (takeCode (8 * s.size) a (S - 1 : Nat) != 0) := ⟨_, rfl⟩
    have HT : Hid (∀ w, RgAt w g h s a bad → Calls Try.prog 67 #[.pointer (some ⟨g, 0, none⟩), .int .i64 ((S : Int) - 1)] w fun e w' => e = .returned (.int .u64 (V : Nat)) ∧ RgTo w g h s A1 (bad || C1) w') := by
      intro w hw
      have := gtake_any g h s a bad (S - 1 : Nat) w hw hs
      rw [← hV, ← hA1, ← hC1] at this
      rw [show ((S : Int) - 1) = ((S - 1 : Nat) : Int) by omega]
      exact this
    rw [← hA1] at hlt1
    rw [← hV] at hlt
    rw [← hV, ← hA1, ← hC1] at hG
    obtain ⟨V1, hV1⟩ : ∃ V1, V1 = takeVal (bitsS s) A1 1 := ⟨_, rfl⟩
    rw [← hV1] at hG
    rw [show takeVal (bitsS s) A1 ((1 : Nat) : Int) = takeVal (bitsS s) A1 1 from rfl, ← hV1] at hlt1
    have HT1 : Hid (∀ w, RgAt w g h s A1 (bad || C1) → Calls Try.prog 67 #[.pointer (some ⟨g, 0, none⟩), .int .i64 1] w fun e w' => e = .returned (.int .u64 (V1 : Nat)) ∧ RgTo w g h s (takeAt (8 * s.size) A1 1) (bad || (C1 || takeCode (8 * s.size) A1 1 != 0)) w') := by
      intro w hw
      have := gtake_any g h s A1 (bad || C1) 1 w hw hs
      rw [← hV1, Bool.or_assoc] at this
      exact this
    obtain ⟨P, hP⟩ : ∃ P, P = 2 ^ S := ⟨_, rfl⟩
    have hwr : IntKind.u64.wrap (2 ^ S) = (P : Int) := shl64 hP q1
    rw [← hP] at p1 p3 p4
    obtain ⟨Q, hQ⟩ : ∃ Q, Q = 2 ^ (S - 1) := ⟨_, rfl⟩
    rw [← hQ] at p1 p2 hlt
    have hP2 : P ≤ 9223372036854775808 := by rw [hP]; have : 2 ^ S ≤ 2 ^ 63 := Nat.pow_le_pow_right (by decide) q1; omega
    have hsub : IntKind.u64.wrap ((P : Int) - (k : Int)) = (m : Int) := by
      rw [show ((P : Int) - (k : Int)) = (m : Int) by omega]; exact wrap_nat64 _ (by omega)
    have hdbl : IntKind.u64.wrap ((V : Int) * 2) = ((V : Int) * 2) := by
      rw [show ((V : Int) * 2) = ((V * 2 : Nat) : Int) by omega]; exact wrap_nat64 _ (by omega)
    have hadd : IntKind.u64.wrap ((V : Int) * 2 + (V1 : Int)) = ((V : Int) * 2 + (V1 : Int)) := by
      rw [show ((V : Int) * 2 + (V1 : Int)) = ((V * 2 + V1 : Nat) : Int) by omega]; exact wrap_nat64 _ (by omega)
    have hS0 : ((S : Int) == 0) = false := by simpa using h0
    have HL := Lib.hid hlen
    by_cases hmv : m ≤ V
    · have hsub2 : IntKind.u64.wrap ((V : Int) * 2 + (V1 : Int) - (m : Int)) = ((2 * V + V1 - m : Nat) : Int) := by
        rw [show ((V : Int) * 2 + (V1 : Int) - (m : Int)) = ((2 * V + V1 - m : Nat) : Int) by omega]; exact wrap_nat64 _ (by omega)
      rw [if_pos hmv] at hG
      have HG := Lib.hid hG
      clear hlen hG q2 e63 hk64 hw hs h1 h2 p1 p2 p3 p4 hS hm hV hA1 hC1 hV1 hP hQ hP2 hlt hlt1 h0
      go_enter Try.func68, Try.ntmps68
      go_wp2_with fail
      refine (HL.out _).mono ?_
      rintro e w' ⟨rfl, rfl⟩
      clear HL
      go_wp2_with fail
      ((with_reducible refine (HT.out _ Hw.out.1).mono ?_))
      rintro e w1 ⟨rfl, hp⟩
      have H1 := Lib.hid hp
      clear hp
      go_wp2_with fail
      ((with_reducible refine (HT1.out _ H1.out.at_).mono ?_))
      rintro e w2 ⟨rfl, hp⟩
      have H2 := Lib.hid (H1.out.trans hp)
      clear hp
      go_wp2_with fail
      go_ret
      rw [HG.out]
      exact ⟨rfl, H2.out⟩
    · rw [if_neg hmv] at hG
      have HG := Lib.hid hG
      clear hlen hG q2 e63 hk64 hw hs h1 h2 p1 p2 p3 p4 hS hm hV hA1 hC1 hV1 hP hQ hP2 hlt hlt1 h0
      go_enter Try.func68, Try.ntmps68
      go_wp2_with fail
      refine (HL.out _).mono ?_
      rintro e w' ⟨rfl, rfl⟩
      clear HL
      go_wp2_with fail
      ((with_reducible refine (HT.out _ Hw.out.1).mono ?_))
      rintro e w1 ⟨rfl, hp⟩
      have H1 := Lib.hid hp
      clear hp
      go_wp2_with fail
      go_ret
      rw [HG.out]
      exact ⟨rfl, H1.out⟩

end Go.Proofs.Ytmgngmnkmmhckaa
