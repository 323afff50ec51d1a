/-
  The codes that the laws of chapter 2 are handed, in memory.
-/
import Derived.Test.YtmgngmnkmmhckaaRow
import Derived.Test.YtmgngmnkmmhckaaLOnce
set_option linter.unusedVariables false
namespace Go.Proofs.Ytmgngmnkmmhckaa
open Go.ChangeShapes Go.WideShapes Go.ChangeAt Go.RowKit Go.Deep

theorem codes_script {H : Type} {enc : TypeId × Value → H} {W : World} {A : Option Addr} {len cap : Nat} {d : DataW H} {p : List MemPlace}
    (h : DataW.Trod enc Try.prog W 0 (fun _ => true) true 68 (.slice A len cap) d p) :
    len ≤ 9223372036854775807 ∧ ∃ kd K, (∀ i, kd i < 256) ∧ (∀ i, K i < 18446744073709551616) ∧ ScC W A len kd K := by
  obtain ⟨fuel, hf⟩ := h
  rcases open_structs Try.underlying68 Try.underlying73 (by kernel_rfl) (by kernel_rfl) hf with ⟨hcs, _⟩ | ⟨a, len', cap', m, D, Pl, hcs, hbb, hl, hm, hmm, hx, hi⟩
  · simp [Value.cells] at hcs
    obtain ⟨rfl, rfl, rfl⟩ := hcs
    exact ⟨by omega, fun _ => 0, fun _ => 0, fun _ => (by decide : (0 : Nat) < 256), fun _ => (by decide : (0 : Nat) < 18446744073709551616), fun h => absurd h (by omega)⟩
  · simp [Value.cells] at hcs
    obtain ⟨rfl, rfl, rfl⟩ := hcs
    have hall : ∀ i, i < len → W.cell? (a.add (i * 2 + 0)) = some (.int .u8 ((cellI W (a.add (i * 2 + 0))).toNat % 256 : Nat)) ∧ W.cell? (a.add (i * 2 + 1)) = some (.int .u64 ((cellI W (a.add (i * 2 + 1))).toNat % 18446744073709551616 : Nat)) := by
      intro i hil
      obtain ⟨ys, n, hD, hyl, hfs⟩ := hi i (by simp at hmm; omega)
      obtain ⟨v1, y1, c1, _, t1⟩ := hfs 0 _ rfl
      obtain ⟨v2, y2, c2, _, t2⟩ := hfs 1 _ rfl
      obtain ⟨n1, e1, _, w1⟩ := DataW.trod_int Try.underlying5 t1
      obtain ⟨n2, e2, _, w2⟩ := DataW.trod_int Try.underlying35 t2
      simp at e1 e2
      subst e1 e2
      have c1' : W.cell? (a.add (i * 2 + 0)) = some (.int .u8 n1) := c1
      have c2' : W.cell? (a.add (i * 2 + 1)) = some (.int .u64 n2) := c2
      have hn1 : 0 ≤ n1 ∧ n1 < 256 := by
        simp [Lit.wf, IntKind.min, IntKind.max, IntKind.signed, IntKind.bits] at w1
        omega
      have hn2 : 0 ≤ n2 ∧ n2 < 18446744073709551616 := by
        simp [Lit.wf, IntKind.min, IntKind.max, IntKind.signed, IntKind.bits] at w2
        omega
      unfold cellI
      rw [c1', c2']
      have q1 : ((n1.toNat % 256 : Nat) : Int) = n1 := by omega
      have q2 : ((n2.toNat % 18446744073709551616 : Nat) : Int) = n2 := by omega
      exact ⟨by rw [q1], by rw [q2]⟩
    refine ⟨by unfold maxLen at hm; omega, fun i => (cellI W (a.add (i * 2 + 0))).toNat % 256, fun i => (cellI W (a.add (i * 2 + 1))).toNat % 18446744073709551616, fun i => Nat.mod_lt _ (by decide), fun i => Nat.mod_lt _ (by decide), ?_⟩
    intro hpos
    obtain ⟨b, off, spot⟩ := a
    have hs0 : spot = none := by
      obtain ⟨ys, n, hD, hyl, hfs⟩ := hi 0 (by simp at hmm; omega)
      obtain ⟨v0, y0, c0, _, t0⟩ := hfs 0 _ rfl
      simpa [Addr.add] using World.cell?_spot c0
    subst hs0
    have hblk := World.block_lt_of_cell? W _ (hall 0 hpos).1
    rw [Addr.add_lit] at hblk
    refine ⟨b, off, rfl, hblk, fun i hil => ?_⟩
    obtain ⟨q1, q2⟩ := hall i hil
    refine ⟨?_, ?_⟩
    · rw [Addr.add_lit] at q1
      show W.cell? ⟨b, off + i * 2 + 0, none⟩ = some (.int .u8 ((cellI W ((⟨b, off, none⟩ : Addr).add (i * 2 + 0))).toNat % 256 : Nat))
      rw [Addr.add_lit]; exact q1
    · rw [Addr.add_lit] at q2
      show W.cell? ⟨b, off + i * 2 + 1, none⟩ = some (.int .u64 ((cellI W ((⟨b, off, none⟩ : Addr).add (i * 2 + 1))).toNat % 18446744073709551616 : Nat))
      rw [Addr.add_lit]; exact q2

end Go.Proofs.Ytmgngmnkmmhckaa
