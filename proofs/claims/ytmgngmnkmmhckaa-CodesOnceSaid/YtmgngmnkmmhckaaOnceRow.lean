/-
  Whatever bits: a number that is read from them, put anew, is the bits that it took (CodesOnce): for every input; no condition.
-/
import Derived.Test.YtmgngmnkmmhckaaRow
import Derived.Test.YtmgngmnkmmhckaaLOnce2
import Derived.SizedLaws
set_option linter.unusedVariables false
namespace Go.Proofs.Ytmgngmnkmmhckaa
open Go.ChangeShapes Go.WideShapes Go.ChangeAt Go.RowKit Go.Deep
open Go.ChangeMaps (open_string shut_string)

theorem codes_script {H : Type} {enc : TypeId × Value → H} {W : World} {A : Option Addr} {len cap : Nat} {d : DataW H} {p : List MemPlace}
    (h : DataW.Trod enc Try.prog W 0 (fun _ => true) true 68 (.slice A len cap) d p) :
    len ≤ 9223372036854775807 ∧ ∃ kd K, (∀ i, kd i < 256) ∧ (∀ i, K i < 18446744073709551616) ∧ ScC W A len kd K := by
  obtain ⟨fuel, hf⟩ := h
  rcases open_structs Try.underlying68 Try.underlying73 (by kernel_rfl) (by kernel_rfl) hf with ⟨hcs, _⟩ | ⟨a, len', cap', m, D, Pl, hcs, hbb, hl, hm, hmm, hx, hi⟩
  · simp [Value.cells] at hcs
    obtain ⟨rfl, rfl, rfl⟩ := hcs
    exact ⟨by omega, fun _ => 0, fun _ => 0, fun _ => (by decide : (0 : Nat) < 256), fun _ => (by decide : (0 : Nat) < 18446744073709551616), fun h => absurd h (by omega)⟩
  · simp [Value.cells] at hcs
    obtain ⟨rfl, rfl, rfl⟩ := hcs
    have hall : ∀ i, i < len → W.cell? (a.add (i * 2 + 0)) = some (.int .u8 ((cellI W (a.add (i * 2 + 0))).toNat % 256 : Nat)) ∧ W.cell? (a.add (i * 2 + 1)) = some (.int .u64 ((cellI W (a.add (i * 2 + 1))).toNat % 18446744073709551616 : Nat)) := by
      intro i hil
      obtain ⟨ys, n, hD, hyl, hfs⟩ := hi i (by simp at hmm; omega)
      obtain ⟨v1, y1, c1, _, t1⟩ := hfs 0 _ rfl
      obtain ⟨v2, y2, c2, _, t2⟩ := hfs 1 _ rfl
      obtain ⟨n1, e1, _, w1⟩ := DataW.trod_int Try.underlying5 t1
      obtain ⟨n2, e2, _, w2⟩ := DataW.trod_int Try.underlying35 t2
      simp at e1 e2
      subst e1 e2
      have c1' : W.cell? (a.add (i * 2 + 0)) = some (.int .u8 n1) := c1
      have c2' : W.cell? (a.add (i * 2 + 1)) = some (.int .u64 n2) := c2
      have hn1 : 0 ≤ n1 ∧ n1 < 256 := by
        simp [Lit.wf, IntKind.min, IntKind.max, IntKind.signed, IntKind.bits] at w1
        omega
      have hn2 : 0 ≤ n2 ∧ n2 < 18446744073709551616 := by
        simp [Lit.wf, IntKind.min, IntKind.max, IntKind.signed, IntKind.bits] at w2
        omega
      unfold cellI
      rw [c1', c2']
      have q1 : ((n1.toNat % 256 : Nat) : Int) = n1 := by omega
      have q2 : ((n2.toNat % 18446744073709551616 : Nat) : Int) = n2 := by omega
      exact ⟨by rw [q1], by rw [q2]⟩
    refine ⟨by unfold maxLen at hm; omega, fun i => (cellI W (a.add (i * 2 + 0))).toNat % 256, fun i => (cellI W (a.add (i * 2 + 1))).toNat % 18446744073709551616, fun i => Nat.mod_lt _ (by decide), fun i => Nat.mod_lt _ (by decide), ?_⟩
    intro hpos
    obtain ⟨b, off, spot⟩ := a
    have hs0 : spot = none := by
      obtain ⟨ys, n, hD, hyl, hfs⟩ := hi 0 (by simp at hmm; omega)
      obtain ⟨v0, y0, c0, _, t0⟩ := hfs 0 _ rfl
      simpa [Addr.add] using World.cell?_spot c0
    subst hs0
    have hblk := World.block_lt_of_cell? W _ (hall 0 hpos).1
    rw [Addr.add_lit] at hblk
    refine ⟨b, off, rfl, hblk, fun i hil => ?_⟩
    obtain ⟨q1, q2⟩ := hall i hil
    refine ⟨?_, ?_⟩
    · rw [Addr.add_lit] at q1
      show W.cell? ⟨b, off + i * 2 + 0, none⟩ = some (.int .u8 ((cellI W ((⟨b, off, none⟩ : Addr).add (i * 2 + 0))).toNat % 256 : Nat))
      rw [Addr.add_lit]; exact q1
    · rw [Addr.add_lit] at q2
      show W.cell? ⟨b, off + i * 2 + 1, none⟩ = some (.int .u64 ((cellI W ((⟨b, off, none⟩ : Addr).add (i * 2 + 1))).toNat % 18446744073709551616 : Nat))
      rw [Addr.add_lit]; exact q2

set_option maxRecDepth 100000 in
theorem once_lifted (os : Os) (started : os.Started) (H : Type) (enc : TypeId × Value → H) :
    ReturnsInHanded {} Try.checked os 12 .any (Rows.codesOnceSpec.pre6 enc Try.prog Try.f12 Rows.codesOnceRow.domain false) (Rows.codesOnceSpec.post enc Try.prog Try.f12 false true false false) := by
  refine returnsInHanded_of_change_sized (C := Try.checked) own started (by kernel_rfl) Try.func12
    (ChangeSpec.witness6 (enc := enc) (C := Try.checked) false ⟨#[], #[.string .empty, .slice none 0 0], []⟩ 8 (by kernel_rfl) (by kernel_rfl) (by kernel_rfl) (by kernel_rfl)) ?_
  intro W base args ds gs before hval0 hW hcnd hsz0 _
  have hsz : (DataW.weightsEach Try.prog (Try.f12.params.toList ++ Rows.codesOnceSpec.plain.varTypes Try.prog) (ds ++ gs)).all (· ≤ reachBytes) = true := hsz0
  clear hsz0
  have hval : ∀ (j : Nat) t v, Try.f12.params[j]? = some t → args[j]? = some v → Value.okWide Try.prog W .any base t v := hval0
  have hW' := hW
  obtain ⟨p, q, hA0, hV, rfl, hfz, hnd⟩ := hW
  have hA : DataW.TrodAll enc Try.prog W 0 (fun _ => true) true Try.f12.params.toList args.toList ds p := hA0
  rw [Try.params12] at hA hval hsz
  obtain ⟨v0, vs0, d0, ds0, p0, q0, hargs, rfl, rfl, h0, r0⟩ := trodAll_cons hA
  obtain ⟨v1, vs1, d1, ds1, p1, q1, rfl, rfl, rfl, h1, r1⟩ := trodAll_cons r0
  obtain ⟨rfl, rfl, rfl⟩ := trodAll_nil r1
  obtain rfl : args = #[v0, v1] := by cases args; simp_all
  obtain ⟨rfl, rfl⟩ := trodVars_none hV
  obtain ⟨s, rfl, rfl, rfl, hmax⟩ := open_string Try.underlying9 (hval 0 9 v0 rfl rfl) h0
  obtain ⟨A, len, cap, rfl⟩ := okWide_slice Try.underlying68 (hval 1 68 v1 rfl rfl)
  clear hA0 hval0
  simp only [List.append_nil, List.nil_append] at hW'
  have hs : s.size ≤ 140737488355328 := by
    have := sized_string hsz (j := 0) (t := 9) rfl rfl
    have e : s.data.toList.length = s.size := by simp
    simp only [reachBytes] at this
    omega
  obtain ⟨hlen, kd, K, hkd, hK, hscr⟩ := codes_script h1
  have hlt1 : ∀ x ∈ p1, x.block < W.heap.size := fun x hx => hW'.lt x hx
  refine (once_any s A len cap kd K hK W hs hlen hscr).mono fun e W' ⟨he, hb⟩ => ?_
  subst he
  exact ⟨_, rfl, post_below (pa := p1) (pv := []) hW' (fun _ _ _ => trodAll_cons_mk (shut_bool Try.underlying4 _) trodAll_mk0)
    (fun sp hsp => by
      have h := trodAll_cons_mk (shut_string Try.underlying9 hmax) (trodAll_cons_mk (trod_kept laidOut (by kernel_rfl) (of_decide_eq_true (by kernel_rfl)) h1 hb hlt1 sp hsp) trodAll_mk0)
      simp only [List.nil_append, List.append_nil] at h
      exact h) (fun _ _ => rfl) (by simp) hb (ok_one (by kernel_rfl) rfl (okWide_bool_mk Try.underlying4 _))⟩

theorem once_proved : Rows.CodesOnceSaid :=
  OpenClaim.holds_of_wide 12 Try.f12 rfl rfl rfl rfl rfl rfl rfl ⟨rfl, rfl, rfl, rfl, rfl⟩ rfl rfl rfl rfl rfl (by kernel_rfl) Try.func12 (by kernel_rfl)
    (of_decide_eq_true (by kernel_rfl)) (by unfold Func.isWrapper; first | (rw [if_pos (by decide +kernel)]; kernel_rfl) | (rw [if_neg (by decide +kernel)]; exact ⟨rfl, rfl⟩))
    (fun os started H enc _ => once_lifted os started H enc)
end Go.Proofs.Ytmgngmnkmmhckaa
