/-
  A sketch hangs on what it was made of (SketchAny): for every input; no condition.
-/
import Derived.Test.YtbkadfocjmpieaaGrowsRow
import Derived.Test.YtbkadfocjmpieaaLAny
set_option linter.unusedVariables false
namespace Go.Proofs.Ytbkadfocjmpieaa
open Go.ChangeShapes Go.WideShapes Go.ChangeAt Go.RowKit Go.Deep
open Go.ChangeMaps (open_string shut_string)

/-- a slice of numbers that came in -/
theorem open_u64s {H : Type} {enc : TypeId × Value → H} {W : World} {A : Option Addr} {len cap : Nat} {d : DataW H} {p : List MemPlace}
    (h : DataW.Trod enc Try.prog W 0 (fun _ => true) true 38 (.slice A len cap) d p) :
    len ≤ cap ∧ cap ≤ maxLen ∧ ∃ l : List Nat, l.length = len ∧ SlU W A l ∧ ∀ i, l.getD i 0 < 18446744073709551616 := by
  obtain ⟨fuel, hf⟩ := h
  rcases open_slice1 Try.underlying38 (by kernel_rfl) hf with ⟨hcs, _⟩ | ⟨a, len', cap', m, n, V, D, Pl, hcs, hbb, hl, hm, hmm, hx, hi⟩
  · simp [Value.cells] at hcs
    obtain ⟨rfl, rfl, rfl⟩ := hcs
    exact ⟨Nat.le_refl _, Nat.zero_le _, [], rfl, fun i h => absurd h (by simp), fun i => by simp⟩
  · simp [Value.cells] at hcs
    obtain ⟨rfl, rfl, rfl⟩ := hcs
    refine ⟨hl, hm, (List.range len).map fun i => (cellI W (a.add i)).toNat % 18446744073709551616, by simp, ?_, ?_⟩
    · intro i hil
      rw [List.length_map, List.length_range] at hil
      refine ⟨a, rfl, ?_⟩
      obtain ⟨c1, t1⟩ := hi i (by simp at hmm; omega)
      obtain ⟨n1, e1, _, w1⟩ := DataW.trod_int Try.underlying22 t1
      simp at e1
      rw [e1] at c1
      have hn1 : 0 ≤ n1 ∧ n1 < 18446744073709551616 := by
        simp [Lit.wf, IntKind.min, IntKind.max, IntKind.signed, IntKind.bits] at w1
        omega
      have hc : cellI W (a.add i) = n1 := by unfold cellI; rw [c1]
      have : (((List.range len).map fun i => (cellI W (a.add i)).toNat % 18446744073709551616).getD i 0) = n1.toNat % 18446744073709551616 := by
        simp [List.getD, hil, hc]
      rw [this, c1]
      have : ((n1.toNat % 18446744073709551616 : Nat) : Int) = n1 := by omega
      rw [this]
    · intro i
      rcases Nat.lt_or_ge i len with hil | hil
      · simp [List.getD, hil]; exact Nat.mod_lt _ (by decide)
      · simp [List.getD, hil]

set_option maxRecDepth 100000 in
theorem any_lifted (os : Os) (started : os.Started) (H : Type) (enc : TypeId × Value → H) :
    ReturnsInHanded {} Try.checked os 5 .any (Rows.sketchAnySpec.pre6 enc Try.prog Try.f5 Rows.sketchAnyRow.domain false) (Rows.sketchAnySpec.post enc Try.prog Try.f5 false true false false) := by
  refine returnsInHanded_of_change (C := Try.checked) own started (by kernel_rfl) Try.func5
    (ChangeSpec.witness6 (enc := enc) (C := Try.checked) false ⟨#[], #[.agg #[.int .u64 0, .int .u64 0, .int .i64 0], .slice none 0 0, .slice none 0 0], []⟩ 8 (by kernel_rfl) (by kernel_rfl) (by kernel_rfl) (by kernel_rfl)) ?_
  intro W base args ds gs before hval0 hW hcnd _
  have hval : ∀ (j : Nat) t v, Try.f5.params[j]? = some t → args[j]? = some v → Value.okWide Try.prog W .any base t v := hval0
  have hW' := hW
  obtain ⟨p, q, hA0, hV, rfl, hfz, hnd⟩ := hW
  have hA : DataW.TrodAll enc Try.prog W 0 (fun _ => true) true Try.f5.params.toList args.toList ds p := hA0
  rw [Try.params5] at hA hval
  obtain ⟨v0, vs0, d0, ds0, p0, q0, hargs, rfl, rfl, h0, r0⟩ := trodAll_cons hA
  obtain ⟨v1, vs1, d1, ds1, p1, q1, rfl, rfl, rfl, h1, r1⟩ := trodAll_cons r0
  obtain ⟨v2, vs2, d2, ds2, p2, q2, rfl, rfl, rfl, h2, r2⟩ := trodAll_cons r1
  obtain ⟨rfl, rfl, rfl⟩ := trodAll_nil r2
  obtain rfl : args = #[v0, v1, v2] := by cases args; simp_all
  obtain ⟨rfl, rfl⟩ := trodVars_none hV
  obtain ⟨a, b, P, ha, hb0, rfl⟩ := open_asked (hval 0 24 v0 rfl rfl) h0
  obtain ⟨A, la, ca, rfl⟩ := okWide_slice Try.underlying38 (hval 1 38 v1 rfl rfl)
  obtain ⟨B, lb, cb, rfl⟩ := okWide_slice Try.underlying38 (hval 2 38 v2 rfl rfl)
  clear hA0
  simp only [List.append_nil] at hW'
  obtain ⟨k1, k2, l1, rfl, s1, u1⟩ := open_u64s h1
  obtain ⟨k3, k4, l2, rfl, s2, u2⟩ := open_u64s h2
  unfold maxLen at k2 k4
  have hlt0 : ∀ x ∈ p0, x.block < W.heap.size := fun x hx => hW'.lt x (by simp [hx])
  have hlt1 : ∀ x ∈ p1, x.block < W.heap.size := fun x hx => hW'.lt x (by simp [hx])
  have hlt2 : ∀ x ∈ p2, x.block < W.heap.size := fun x hx => hW'.lt x (by simp [hx])
  refine (any_any A B ca cb l1 l2 a b P W s1 s2 u1 u2 k1 k3 k2 k4 ha).mono fun e W' ⟨he, hb⟩ => ?_
  subst he
  exact ⟨_, rfl, post_below (pa := p0 ++ (p1 ++ p2)) (pv := []) hW' (fun _ _ _ => trodAll_cons_mk (shut_bool Try.underlying4 _) trodAll_mk0)
    (fun sp hsp => by
      have h := trodAll_cons_mk (trod_kept laidOut (by kernel_rfl) (of_decide_eq_true (by kernel_rfl)) h0 hb hlt0 sp (fun x hx => hsp x (by simp [hx])))
        (trodAll_cons_mk (trod_kept laidOut (by kernel_rfl) (of_decide_eq_true (by kernel_rfl)) h1 hb hlt1 sp (fun x hx => hsp x (by simp [hx])))
          (trodAll_cons_mk (trod_kept laidOut (by kernel_rfl) (of_decide_eq_true (by kernel_rfl)) h2 hb hlt2 sp (fun x hx => hsp x (by simp [hx]))) trodAll_mk0))
      simp only [List.append_nil] at h
      exact h) (fun _ _ => rfl) (by simp) hb (ok_one (by kernel_rfl) rfl (okWide_bool_mk Try.underlying4 _))⟩

theorem any_proved : Rows.SketchAnySaid :=
  OpenClaim.holds_of_wide 5 Try.f5 rfl rfl rfl rfl rfl rfl rfl ⟨rfl, rfl, rfl, rfl, rfl⟩ rfl rfl rfl rfl rfl (by kernel_rfl) Try.func5 (by kernel_rfl)
    (of_decide_eq_true (by kernel_rfl)) (by unfold Func.isWrapper; first | (rw [if_pos (by decide +kernel)]; kernel_rfl) | (rw [if_neg (by decide +kernel)]; exact ⟨rfl, rfl⟩))
    (fun os started H enc _ => any_lifted os started H enc)
end Go.Proofs.Ytbkadfocjmpieaa
