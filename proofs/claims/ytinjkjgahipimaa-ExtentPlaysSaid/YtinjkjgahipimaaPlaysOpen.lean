/-
  A list of calls that came in: and its numbers are no greater than an int.
-/
import Derived.Test.YtinjkjgahipimaaBackOpen
set_option linter.unusedVariables false
namespace Go.Proofs.Ytinjkjgahipimaa
open Go.ChangeShapes Go.WideShapes Go.ChangeAt Go.RowKit Go.Deep

theorem ops_open2 {H : Type} {enc : TypeId × Value → H} {W : World} {A : Option Addr} {len cap : Nat} {d : DataW H} {p : List MemPlace}
    (h : DataW.Trod enc Try.prog W 0 (fun _ => true) true 32 (.slice A len cap) d p) :
    len ≤ 9223372036854775807 ∧ ∃ v : Nat → OpV, OpR W A len v ∧ ∀ i, i < len → (v i).n ≤ 9223372036854775807 := by
  obtain ⟨fuel, hf⟩ := h
  rcases open_slice Try.underlying32 hf with ⟨hcs, _⟩ | ⟨a, len', cap', m, n, D, Pl, hcs, hbb, hl, hm, hmm, hx, hi⟩
  · simp [Value.cells] at hcs
    obtain ⟨rfl, rfl, rfl⟩ := hcs
    exact ⟨by omega, fun _ => ⟨0, 0, 0, 0, 0⟩, (fun h => absurd h (by omega)), fun i h => absurd h (by omega)⟩
  · simp [Value.cells] at hcs
    obtain ⟨rfl, rfl, rfl⟩ := hcs
    have hC : Try.prog.cellsOf 41 = 5 := by kernel_rfl
    have hC39 : Try.prog.cellsOf 39 = 2 := by kernel_rfl
    have hC3 : Try.prog.cellsOf 3 = 1 := by kernel_rfl
    have hall : ∀ i, i < len → ∃ k0 k1 k2 k3 k4 : Int, W.cell? (a.add (i * 5 + 0)) = some (.int .i64 k0) ∧ W.cell? (a.add (i * 5 + 1)) = some (.int .i64 k1) ∧ W.cell? (a.add (i * 5 + 2)) = some (.int .i64 k2) ∧ W.cell? (a.add (i * 5 + 3)) = some (.int .i64 k3) ∧ W.cell? (a.add (i * 5 + 4)) = some (.int .i64 k4) ∧ k2 ≤ 9223372036854775807 := by
      intro i hil
      obtain ⟨cs', hc, ht'⟩ := hi i (by simp at hmm; omega)
      rw [hC] at hc
      obtain ⟨ys, n', hn', hy, hlen, hyl, hff⟩ := DataW.trod_struct Try.underlying41 ht'
      obtain ⟨_, hcl, hat⟩ := World.cells?_some hc
      rw [hC] at hlen
      obtain ⟨x0, x1, x2, x3, x4, rfl⟩ := list_five cs' hlen
      have h0 : DataW.trod enc Try.prog W 0 (fun _ => true) true n' 3 (List.take (Try.prog.cellsOf 3) (List.drop 0 [x0, x1, x2, x3, x4])) = ys[0]? := hff 0 _ rfl
      have h1 : DataW.trod enc Try.prog W 0 (fun _ => true) true n' 3 (List.take (Try.prog.cellsOf 3) (List.drop 1 [x0, x1, x2, x3, x4])) = ys[1]? := hff 1 _ rfl
      have h2 : DataW.trod enc Try.prog W 0 (fun _ => true) true n' 3 (List.take (Try.prog.cellsOf 3) (List.drop 2 [x0, x1, x2, x3, x4])) = ys[2]? := hff 2 _ rfl
      have h3 : DataW.trod enc Try.prog W 0 (fun _ => true) true n' 39 (List.take (Try.prog.cellsOf 39) (List.drop 3 [x0, x1, x2, x3, x4])) = ys[3]? := hff 3 _ rfl
      rw [hC39] at h3
      rw [hC3] at h0 h1 h2
      simp only [List.take, List.drop] at h0 h1 h2 h3
      have hy0 : ys[0]? = some (ys[0]'(by rw [hyl]; decide)) := List.getElem?_eq_getElem _
      have hy1 : ys[1]? = some (ys[1]'(by rw [hyl]; decide)) := List.getElem?_eq_getElem _
      have hy2 : ys[2]? = some (ys[2]'(by rw [hyl]; decide)) := List.getElem?_eq_getElem _
      have hy3 : ys[3]? = some (ys[3]'(by rw [hyl]; decide)) := List.getElem?_eq_getElem _
      obtain ⟨zs, n2, _, _, _, hzl, hgg⟩ := DataW.trod_struct Try.underlying39 (h3.trans hy3)
      have g0 : DataW.trod enc Try.prog W 0 (fun _ => true) true n2 3 (List.take (Try.prog.cellsOf 3) (List.drop 0 [x3, x4])) = zs[0]? := hgg 0 _ rfl
      have g1 : DataW.trod enc Try.prog W 0 (fun _ => true) true n2 3 (List.take (Try.prog.cellsOf 3) (List.drop 1 [x3, x4])) = zs[1]? := hgg 1 _ rfl
      rw [hC3] at g0 g1
      simp only [List.take, List.drop] at g0 g1
      have hz0 : zs[0]? = some (zs[0]'(by rw [hzl]; decide)) := List.getElem?_eq_getElem _
      have hz1 : zs[1]? = some (zs[1]'(by rw [hzl]; decide)) := List.getElem?_eq_getElem _
      obtain ⟨k0, e0, _, _⟩ := DataW.trod_int Try.underlying3 (h0.trans hy0)
      obtain ⟨k1, e1, _, _⟩ := DataW.trod_int Try.underlying3 (h1.trans hy1)
      obtain ⟨k2, e2, _, hwf⟩ := DataW.trod_int Try.underlying3 (h2.trans hy2)
      obtain ⟨k3, e3, _, _⟩ := DataW.trod_int Try.underlying3 (g0.trans hz0)
      obtain ⟨k4, e4, _, _⟩ := DataW.trod_int Try.underlying3 (g1.trans hz1)
      simp at e0 e1 e2 e3 e4
      subst e0 e1 e2 e3 e4
      have a0 := hat 0 (by decide)
      have a1 := hat 1 (by decide)
      have a2 := hat 2 (by decide)
      have a3 := hat 3 (by decide)
      have a4 := hat 4 (by decide)
      rw [Go.Deep.add_add] at a0 a1 a2 a3 a4
      have hk2 : k2 ≤ 9223372036854775807 := by simp [Lit.wf, IntKind.max, IntKind.bits, IntKind.signed] at hwf; omega
      exact ⟨k0, k1, k2, k3, k4, a0, a1, a2, a3, a4, hk2⟩
    have hcell : ∀ i, i < len → ∀ j, j < 5 → W.cell? (a.add (i * 5 + j)) = some (.int .i64 (cellI W (a.add (i * 5 + j)))) := by
      intro i hil j hj
      obtain ⟨k0, k1, k2, k3, k4, c0, c1, c2, c3, c4, _⟩ := hall i hil
      unfold cellI
      match j, hj with
      | 0, _ => rw [c0]
      | 1, _ => rw [c1]
      | 2, _ => rw [c2]
      | 3, _ => rw [c3]
      | 4, _ => rw [c4]
    refine ⟨by unfold maxLen at hm; omega, fun i => ⟨cellI W (a.add (i * 5 + 0)), cellI W (a.add (i * 5 + 1)), cellI W (a.add (i * 5 + 2)), cellI W (a.add (i * 5 + 3)), cellI W (a.add (i * 5 + 4))⟩, ?_, fun i hil => ?_⟩
    rotate_left
    · obtain ⟨k0, k1, k2, k3, k4, c0, c1, c2, c3, c4, hk2⟩ := hall i hil
      show cellI W (a.add (i * 5 + 2)) ≤ 9223372036854775807
      unfold cellI
      rw [c2]
      exact hk2
    intro hpos
    obtain ⟨b, off, spot⟩ := a
    have hs0 : spot = none := by
      have := hcell 0 hpos 0 (by decide)
      simpa [Addr.add] using World.cell?_spot this
    subst hs0
    have hblk := World.block_lt_of_cell? W _ (hcell 0 hpos 0 (by decide))
    rw [Addr.add_lit] at hblk
    refine ⟨b, off, rfl, hblk, fun i hil => ?_⟩
    have q0 := hcell i hil 0 (by decide)
    have q1 := hcell i hil 1 (by decide)
    have q2 := hcell i hil 2 (by decide)
    have q3 := hcell i hil 3 (by decide)
    have q4 := hcell i hil 4 (by decide)
    rw [Addr.add_lit] at q0 q1 q2 q3 q4
    simp only [Addr.add_lit]
    exact ⟨q0, q1, q2, q3, q4⟩
end Go.Proofs.Ytinjkjgahipimaa
