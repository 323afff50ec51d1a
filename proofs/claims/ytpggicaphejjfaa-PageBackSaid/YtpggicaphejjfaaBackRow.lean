/-
  Each node has exactly one block, and each block one node (PageBack): for every input; no condition.
-/
import Derived.Test.YtpggicaphejjfaaNodeRow
import Derived.Test.YtpggicaphejjfaaLBack2
set_option linter.unusedVariables false
namespace Go.Proofs.Ytpggicaphejjfaa
open Go.ChangeShapes Go.WideShapes Go.ChangeAt Go.RowKit Go.Deep
open Go.ChangeMaps (open_string shut_string)

/-- bytes and a size that came in -/
theorem bytes_in {H : Type} {enc : TypeId × Value → H} {W : World} {r : Reach} {base : Nat} {v : Value} {d : DataW H} {p : List MemPlace} (hv : Value.okWide Try.prog W r base 51 v) (h : DataW.Trod enc Try.prog W 0 (fun _ => true) true 51 v d p) (hw : ∀ k ∈ d.weights Try.prog 51, k ≤ reachBytes) :
    ∃ (S : ByteArray) (X : Int), v = .agg #[.string S, .int .i64 X] ∧ S.size ≤ 140737488355328 ∧ -9223372036854775808 ≤ X ∧ X ≤ 9223372036854775807 := by
  obtain ⟨cs, rfl, hcs⟩ := okWide_struct Try.underlying51 hv
  obtain ⟨fuel, hf⟩ := h
  obtain ⟨y0, y1, n, hx, hl, t0, t1⟩ := trod_struct2 Try.underlying51 hf
  have e2 : Try.prog.cellsOf 51 = 2 := by kernel_rfl
  rw [e2] at hcs
  obtain ⟨l⟩ := cs
  match l, hcs with
  | [a0, a1], _ =>
    have k9 : Try.prog.cellsOf 9 = 1 := by kernel_rfl
    have k3 : Try.prog.cellsOf 3 = 1 := by kernel_rfl
    simp [Value.cells, k9, k3] at t0 t1
    obtain ⟨S, q1, q2, q3⟩ := DataW.trod_string Try.underlying9 t0
    obtain rfl : a0 = .string S := by simpa using q1
    obtain ⟨X, r1, _, r3⟩ := DataW.trod_int Try.underlying3 t1
    obtain rfl : a1 = .int .i64 X := by simpa using r1
    simp [Lit.wf, IntKind.min, IntKind.max, IntKind.signed, IntKind.bits] at r3
    simp only [Prod.mk.injEq] at hx
    rw [hx.1] at hw
    have hS := hw S.data.toList.length (by
      rw [q2]
      simp [DataW.weights, Try.underlying51, DataW.weightsEach])
    rw [length_data] at hS
    unfold reachBytes at hS
    exact ⟨S, X, rfl, by omega, r3.1, r3.2⟩

set_option maxRecDepth 100000 in
theorem back_lifted (os : Os) (started : os.Started) (H : Type) (enc : TypeId × Value → H) :
    ReturnsInHanded {} Try.checked os 6 .any (Rows.pageBackSpec.pre6 enc Try.prog Try.f6 Rows.pageBackRow.domain false) (Rows.pageBackSpec.post enc Try.prog Try.f6 false true false false) := by
  refine returnsInHanded_of_change_sized (C := Try.checked) own started (by kernel_rfl) Try.func6
    (ChangeSpec.witness6 (enc := enc) (C := Try.checked) false ⟨#[], #[.agg #[.bool false, .slice none 0 0, .slice none 0 0, .slice none 0 0], .agg #[.bool false, .slice none 0 0, .slice none 0 0, .slice none 0 0], .agg #[.string .empty, .int .i64 0]], []⟩ 8 (by kernel_rfl) (by kernel_rfl) (by kernel_rfl) (by kernel_rfl)) ?_
  intro W base args ds gs before hval0 hW hcnd hsz0 _
  have hsz : (DataW.weightsEach Try.prog (Try.f6.params.toList ++ Rows.pageBackSpec.plain.varTypes Try.prog) (ds ++ gs)).all (· ≤ reachBytes) = true := hsz0
  clear hsz0
  have hval : ∀ (j : Nat) t v, Try.f6.params[j]? = some t → args[j]? = some v → Value.okWide Try.prog W .any base t v := hval0
  have hW' := hW
  obtain ⟨p, q, hA0, hV, rfl, hfz, hnd⟩ := hW
  have hA : DataW.TrodAll enc Try.prog W 0 (fun _ => true) true Try.f6.params.toList args.toList ds p := hA0
  rw [Try.params6] at hA hval hsz
  obtain ⟨v0, vs0, d0, ds0, p0, q0, hargs, rfl, rfl, h0, r0⟩ := trodAll_cons hA
  obtain ⟨v1, vs1, d1, ds1, p1, q1, rfl, rfl, rfl, h1, r1⟩ := trodAll_cons r0
  obtain ⟨v2, vs2, d2, ds2, p2, q2, rfl, rfl, rfl, h2, r2⟩ := trodAll_cons r1
  obtain ⟨rfl, rfl, rfl⟩ := trodAll_nil r2
  obtain rfl : args = #[v0, v1, v2] := by cases args; simp_all
  obtain ⟨rfl, rfl⟩ := trodVars_none hV
  obtain ⟨n, A1, A2, A3, a1, a2, a3, rfl, hn, rn⟩ := node_in (hval 0 25 v0 rfl rfl) h0 (fun k hk => by
    have := List.all_eq_true.1 hsz k (DataW.weights_mem_each (j := 0) rfl rfl k hk)
    simpa using this)
  obtain ⟨m, C1, C2, C3, c1, c2, c3, rfl, hm, rm⟩ := node_in (hval 1 25 v1 rfl rfl) h1 (fun k hk => by
    have := List.all_eq_true.1 hsz k (DataW.weights_mem_each (j := 1) rfl rfl k hk)
    simpa using this)
  obtain ⟨S, X, rfl, hS, hX1, hX2⟩ := bytes_in (hval 2 51 v2 rfl rfl) h2 (fun k hk => by
    have := List.all_eq_true.1 hsz k (DataW.weights_mem_each (j := 2) rfl rfl k hk)
    simpa using this)
  simp only [List.append_nil] at hW'
  have hlt : ∀ x ∈ p0 ++ (p1 ++ p2), x.block < W.heap.size := fun x hx => hW'.lt x hx
  refine (back_any n m A1 A2 A3 C1 C2 C3 a1 a2 a3 c1 c2 c3 S X W hn hm ⟨rn.1, rn.2.1, rn.2.2⟩ ⟨rm.1, rm.2.1, rm.2.2⟩ hS hX1 hX2).mono fun e W' ⟨he, hb⟩ => ?_
  subst he
  exact ⟨_, rfl, post_below (pa := p0 ++ (p1 ++ p2)) (pv := []) hW' (fun _ _ _ => trodAll_cons_mk (shut_bool Try.underlying4 _) trodAll_mk0)
    (fun sp hsp => by
      have h := trodAll_cons_mk (trod_kept laidOut (by kernel_rfl) (of_decide_eq_true (by kernel_rfl)) h0 hb (fun x hx => hlt x (List.mem_append.2 (.inl hx))) sp (fun x hx => hsp x (List.mem_append.2 (.inl hx))))
        (trodAll_cons_mk (trod_kept laidOut (by kernel_rfl) (of_decide_eq_true (by kernel_rfl)) h1 hb (fun x hx => hlt x (List.mem_append.2 (.inr (List.mem_append.2 (.inl hx))))) sp (fun x hx => hsp x (List.mem_append.2 (.inr (List.mem_append.2 (.inl hx))))))
          (trodAll_cons_mk (trod_kept laidOut (by kernel_rfl) (of_decide_eq_true (by kernel_rfl)) h2 hb (fun x hx => hlt x (List.mem_append.2 (.inr (List.mem_append.2 (.inr hx))))) sp (fun x hx => hsp x (List.mem_append.2 (.inr (List.mem_append.2 (.inr hx)))))) trodAll_mk0))
      simp only [List.append_nil] at h
      exact h) (fun _ _ => rfl) (by simp) hb (ok_one (by kernel_rfl) rfl (okWide_bool_mk Try.underlying4 _))⟩

theorem back_proved : Rows.PageBackSaid :=
  OpenClaim.holds_of_wide 6 Try.f6 rfl rfl rfl rfl rfl rfl rfl ⟨rfl, rfl, rfl, rfl, rfl⟩ rfl rfl rfl rfl rfl (by kernel_rfl) Try.func6 (by kernel_rfl)
    (of_decide_eq_true (by kernel_rfl)) (by unfold Func.isWrapper; first | (rw [if_pos (by decide +kernel)]; kernel_rfl) | (rw [if_neg (by decide +kernel)]; exact ⟨rfl, rfl⟩))
    (fun os started H enc _ => back_lifted os started H enc)
end Go.Proofs.Ytpggicaphejjfaa
