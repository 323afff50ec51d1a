/-
  A node that came in, opened.
-/
import Derived.Test.YtpggicaphejjfaaRow
import Derived.Test.YtpggicaphejjfaaLEncodes
import Derived.SizedLaws
import Derived.Deep.Strs
import Derived.Lib.SmallJoins
set_option linter.unusedVariables false
namespace Go.Proofs.Ytpggicaphejjfaa
open Go.ChangeShapes Go.WideShapes Go.ChangeAt Go.RowKit Go.Deep

theorem weights_all {H : Type} {P : Program} {e : TypeId} {x : DataW H} {k : Nat} : ∀ {l : List (DataW H)}, x ∈ l → k ∈ x.weights P e → k ∈ DataW.weightsAll P e l
  | y :: r, hx, hk => by
    simp only [DataW.weightsAll, List.mem_append]
    rcases List.mem_cons.1 hx with h | h
    · subst h; exact .inl hk
    · exact .inr (weights_all h hk)
theorem getD_map_range {α : Type} (f : Nat → α) (d : α) {n i : Nat} (h : i < n) : ((List.range n).map f).getD i d = f i := by
  simp [List.getD, h]
section
variable {H : Type} {enc : TypeId × Value → H} {W : World}
/-- a slice of texts that came in -/
theorem strs_in {fuel : Nat} {c : Value} {x : DataW H × List MemPlace} (h : DataW.trod enc Try.prog W 0 (fun _ => true) true fuel 22 [c] = some x) (hw : ∀ k ∈ x.1.weights Try.prog 22, k ≤ reachBytes) :
    ∃ (A : Option Addr) (l : List ByteArray) (cap : Nat), c = .slice A l.length cap ∧ StrR W A l ∧ (l.length + 1) * 16 ≤ 140737488355328 ∧ l.length ≤ 140737488355328 ∧ Szd l ∧ (∀ p, A = some p → 0 < l.length → p.block < W.heap.size) := by
  rcases open_strs Try.underlying22 Try.underlying9 (by kernel_rfl) h with ⟨hcs, hx⟩ | ⟨a, len, cap, m, Sx, hcs, hb, hl, hm, hmm, hx, hcell⟩
  · obtain rfl : c = .slice none 0 0 := by simpa using hcs
    exact ⟨none, [], 0, rfl, fun h => absurd h (by decide), by decide, by decide, fun i => by simp [ByteArray.size], fun p hp => by cases hp⟩
  · obtain rfl : c = .slice (some a) len cap := by simpa using hcs
    simp only [if_true] at hmm
    subst hmm
    rw [hx] at hw
    have h16 : Try.prog.bytesOf 9 = 16 := by kernel_rfl
    have hlen : ((List.range len).map Sx).length = len := by simp
    have hw1 : m * 16 ≤ reachBytes := by
      have := hw (((List.range len).map fun i => (DataW.lit (.string (Sx i).data.toList) : DataW H)).length * 16 + (m - len) * 16) (by
        simp only [DataW.weights, Try.underlying22, h16, List.length_map, List.length_range]
        refine List.mem_cons.2 (.inl ?_)
        rw [Nat.add_mul])
      simp only [List.length_map, List.length_range] at this
      have e : len * 16 + (m - len) * 16 = m * 16 := by rw [← Nat.add_mul]; congr 1; omega
      rw [e] at this
      exact this
    have hw2 : ∀ i, i < len → (Sx i).size ≤ reachBytes := fun i hi => by
      have := hw (Sx i).data.toList.length (by
        simp only [DataW.weights, Try.underlying22]
        refine List.mem_cons.2 (.inr (List.mem_append.2 (.inl (weights_all (x := .lit (.string (Sx i).data.toList)) (List.mem_map.2 ⟨i, List.mem_range.2 hi, rfl⟩) (by simp [DataW.weights])))))
      )
      rwa [length_data] at this
    unfold reachBytes at hw1 hw2
    refine ⟨some a, (List.range len).map Sx, m, by rw [hlen], ?_, by rw [hlen]; omega, by rw [hlen]; omega, fun i => ?_, ?_⟩
    · intro hpos
      rw [hlen] at hpos
      obtain ⟨b, off, spot⟩ := a
      have c0 := (hcell 0 (by omega)).1
      have hs0 : spot = none := by simpa [Addr.add] using World.cell?_spot c0
      subst hs0
      have hblk := World.block_lt_of_cell? W _ c0
      refine ⟨b, off, rfl, by rw [Addr.add_lit] at hblk; exact hblk, fun i hi => ?_⟩
      rw [hlen] at hi
      have := (hcell i (by omega)).1
      rw [Addr.add_lit] at this
      rw [getD_map_range _ _ hi]
      exact this
    · rcases Nat.lt_or_ge i len with h1 | h1
      · rw [getD_map_range _ _ h1]; have := hw2 i h1; omega
      · simp [List.getD, h1, ByteArray.size]
    · intro p hp hpos
      rw [hlen] at hpos
      cases hp
      have := World.block_lt_of_cell? W _ (hcell 0 (by omega)).1
      simpa [Addr.add] using this
/-- a slice of kids' numbers that came in -/
theorem kids_in {fuel : Nat} {c : Value} {x : DataW H × List MemPlace} (h : DataW.trod enc Try.prog W 0 (fun _ => true) true fuel 23 [c] = some x) (hw : ∀ k ∈ x.1.weights Try.prog 23, k ≤ reachBytes) :
    ∃ (A : Option Addr) (l : List Nat) (cap : Nat), c = .slice A l.length cap ∧ KidR W A l ∧ (l.length + 1) * 4 ≤ 140737488355328 ∧ l.length ≤ 140737488355328 ∧ (∀ i, l.getD i 0 < 4294967296) := by
  rcases open_slice1 Try.underlying23 (by kernel_rfl) h with ⟨hcs, hx⟩ | ⟨a, len, cap, m, n, V, D, Pl, hcs, hb, hl, hm, hmm, hx, hcell⟩
  · obtain rfl : c = .slice none 0 0 := by simpa using hcs
    exact ⟨none, [], 0, rfl, fun h => absurd h (by decide), by decide, by decide, fun i => by simp⟩
  · obtain rfl : c = .slice (some a) len cap := by simpa using hcs
    simp only [if_true] at hmm
    subst hmm
    rw [hx] at hw
    have h4 : Try.prog.bytesOf 42 = 4 := by kernel_rfl
    have hw1 : m * 4 ≤ reachBytes := by
      have := hw (len * 4 + (m - len) * 4) (by
        simp only [DataW.weights, Try.underlying23, h4, List.length_map, List.length_range]
        refine List.mem_cons.2 (.inl ?_)
        rw [Nat.add_mul])
      have e : len * 4 + (m - len) * 4 = m * 4 := by rw [← Nat.add_mul]; congr 1; omega
      rw [e] at this
      exact this
    unfold reachBytes at hw1
    have hv : ∀ i, i < m → V i = .int .u32 ((cellI W (a.add i)).toNat : Nat) ∧ (cellI W (a.add i)).toNat < 4294967296 := fun i hi => by
      obtain ⟨hc, ht⟩ := hcell i hi
      obtain ⟨q, e, _, wq⟩ := DataW.trod_int Try.underlying42 ht
      have e' : V i = .int .u32 q := by simpa using e
      simp [Lit.wf, IntKind.min, IntKind.max, IntKind.signed, IntKind.bits] at wq
      have hcI : cellI W (a.add i) = q := by unfold cellI; rw [hc, e']
      rw [hcI, e']
      exact ⟨by rw [Int.toNat_of_nonneg (by omega)], by omega⟩
    have hlen : ((List.range len).map fun i => (cellI W (a.add i)).toNat).length = len := by simp
    refine ⟨some a, (List.range len).map fun i => (cellI W (a.add i)).toNat, m, by rw [hlen], ?_, by rw [hlen]; omega, by rw [hlen]; omega, fun i => ?_⟩
    · intro hpos
      rw [hlen] at hpos
      obtain ⟨b, off, spot⟩ := a
      have c0 := (hcell 0 (by omega)).1
      have hs0 : spot = none := by simpa [Addr.add] using World.cell?_spot c0
      subst hs0
      have hblk := World.block_lt_of_cell? W _ c0
      refine ⟨b, off, rfl, by rw [Addr.add_lit] at hblk; exact hblk, fun i hi => ?_⟩
      rw [hlen] at hi
      have h1 := (hcell i (by omega)).1
      rw [(hv i (by omega)).1] at h1
      rw [getD_map_range _ _ hi]
      rw [Addr.add_lit] at h1 ⊢
      exact h1
    · rcases Nat.lt_or_ge i len with h1 | h1
      · rw [getD_map_range _ _ h1]; exact (hv i (by omega)).2
      · simp [List.getD, h1]
/-- a node that came in -/
theorem node_in {r : Reach} {base : Nat} {v : Value} {d : DataW H} {p : List MemPlace} (hv : Value.okWide Try.prog W r base 25 v) (h : DataW.Trod enc Try.prog W 0 (fun _ => true) true 25 v d p) (hw : ∀ k ∈ d.weights Try.prog 25, k ≤ reachBytes) :
    ∃ (n : Nd) (A1 A2 A3 : Option Addr) (c1 c2 c3 : Nat), v = .agg (ndC n A1 A2 A3 c1 c2 c3) ∧ NdR W n A1 A2 A3 ∧ RoomN n := by
  obtain ⟨cs, rfl, hcs⟩ := okWide_struct Try.underlying25 hv
  obtain ⟨fuel, hf⟩ := h
  obtain ⟨y0, y1, y2, y3, n, hx, hl, t0, t1, t2, t3⟩ := Go.Joins.trod_struct4 Try.underlying25 hf
  have e4 : Try.prog.cellsOf 25 = 4 := by kernel_rfl
  rw [e4] at hcs
  obtain ⟨l⟩ := cs
  match l, hcs with
  | [a0, a1, a2, a3], _ =>
    have k4 : Try.prog.cellsOf 4 = 1 := by kernel_rfl
    have k22 : Try.prog.cellsOf 22 = 1 := by kernel_rfl
    have k23 : Try.prog.cellsOf 23 = 1 := by kernel_rfl
    simp [Value.cells, k4, k22, k23] at t0 t1 t2 t3
    obtain ⟨b, e0, _⟩ := DataW.trod_bool Try.underlying4 t0
    obtain rfl : a0 = .bool b := by simpa using e0
    simp only [Prod.mk.injEq] at hx
    rw [hx.1] at hw
    simp only [DataW.weights, Try.underlying25, DataW.weightsEach, List.map_cons, List.map_nil, List.append_nil, List.mem_append] at hw
    obtain ⟨A1, l1, c1, rfl, q1, r1, s1, z1, b1⟩ := strs_in t1 (fun k hk => hw k (.inr (.inl hk)))
    obtain ⟨A2, l2, c2, rfl, q2, r2, s2, z2, b2⟩ := strs_in t2 (fun k hk => hw k (.inr (.inr (.inl hk))))
    obtain ⟨A3, l3, c3, rfl, q3, r3, s3, u3⟩ := kids_in t3 (fun k hk => hw k (.inr (.inr (.inr hk))))
    exact ⟨⟨b, l1, l2, l3⟩, A1, A2, A3, c1, c2, c3, rfl, { k := q1, v := q2, i := q3, l1 := s1, l2 := s2, l3 := s3, a1 := fun hl p hp => b1 p hp hl, a2 := fun hl p hp => b2 p hp hl, b := z2, z := z1, u := u3 }, ⟨r1, r2, r3⟩⟩
end
end Go.Proofs.Ytpggicaphejjfaa
