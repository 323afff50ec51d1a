/-
  Packing and unpacking say what chapter 1 says (BitioPacks), up to the bound.
-/
import Derived.Test.YtmgngmnkmmhckaaRow
import Derived.Test.YtmgngmnkmmhckaaLPacks
set_option linter.unusedVariables false
namespace Go.Proofs.Ytmgngmnkmmhckaa
open Go.ChangeShapes Go.WideShapes Go.ChangeAt Go.RowKit Go.Deep
open Go.ChangeMaps (open_string shut_string)

theorem packs_list {H : Type} {enc : TypeId × Value → H} {W : World} {A : Option Addr} {len cap : Nat} {d : DataW H} {p : List MemPlace}
    (h : DataW.Trod enc Try.prog W 0 (fun _ => true) true 58 (.slice A len cap) d p) (hb : Rows.uptoBulk d ≤ 1048576) :
    len ≤ 1048576 ∧ ∃ l : List Nat, l.length = len ∧ SlU W A l ∧ ∀ i, l.getD i 0 < 18446744073709551616 := by
  obtain ⟨fuel, hf⟩ := h
  rcases open_slice1 Try.underlying58 (by kernel_rfl) hf with ⟨hcs, _⟩ | ⟨a, len', cap', m, n, V, D, Pl, hcs, hbb, hl, hm, hmm, hx, hi⟩
  · simp [Value.cells] at hcs
    obtain ⟨rfl, rfl, rfl⟩ := hcs
    exact ⟨Nat.zero_le _, [], rfl, fun i h => absurd h (by simp), fun i => by simp⟩
  · simp [Value.cells] at hcs
    obtain ⟨rfl, rfl, rfl⟩ := hcs
    simp only [Prod.mk.injEq] at hx
    obtain ⟨rfl, _⟩ := hx
    rw [bulk_slice] at hb
    have h1 := bulk_length ((List.range len).map D)
    rw [List.length_map, List.length_range] at h1
    refine ⟨by omega, (List.range len).map fun i => (cellI W (a.add i)).toNat % 18446744073709551616, by simp, ?_, ?_⟩
    · intro i hil
      rw [List.length_map, List.length_range] at hil
      refine ⟨a, rfl, ?_⟩
      obtain ⟨c1, t1⟩ := hi i (by simp at hmm; omega)
      obtain ⟨n1, e1, _, w1⟩ := DataW.trod_int Try.underlying35 t1
      simp at e1
      rw [e1] at c1
      have hn1 : 0 ≤ n1 ∧ n1 < 18446744073709551616 := by
        simp [Lit.wf, IntKind.min, IntKind.max, IntKind.signed, IntKind.bits] at w1
        omega
      have hc : cellI W (a.add i) = n1 := by unfold cellI; rw [c1]
      have : (((List.range len).map fun i => (cellI W (a.add i)).toNat % 18446744073709551616).getD i 0) = n1.toNat % 18446744073709551616 := by
        simp [List.getD, hil, hc]
      rw [this, c1]
      have : ((n1.toNat % 18446744073709551616 : Nat) : Int) = n1 := by omega
      rw [this]
    · intro i
      rcases Nat.lt_or_ge i len with hil | hil
      · simp [List.getD, hil]; exact Nat.mod_lt _ (by decide)
      · simp [List.getD, hil]

set_option maxRecDepth 100000 in
theorem packs_width {H : Type} {enc : TypeId × Value → H} {W : World} {base : Nat} {v : Value} {d : DataW H} {p : List MemPlace}
    (hv : Value.okWide Try.prog W .any base 60 v) (h : DataW.Trod enc Try.prog W 0 (fun _ => true) true 60 v d p) : ∃ n c : Int, v = .agg #[.int .i64 n, .int .i64 c] := by
  obtain ⟨cs, rfl, hsz⟩ := okWide_struct Try.underlying60 hv
  have h2' : Try.prog.cellsOf 60 = 2 := by kernel_rfl
  rw [h2'] at hsz
  obtain ⟨fuel, hf⟩ := h
  obtain ⟨y0, y1, n, _, _, t0, t1⟩ := trod_struct2 Try.underlying60 hf
  obtain ⟨l⟩ := cs
  match l, hsz with
  | [x, y], _ =>
    obtain ⟨n1, e1, _⟩ := DataW.trod_int Try.underlying3 t0
    obtain ⟨n2, e2, _⟩ := DataW.trod_int Try.underlying3 t1
    have h3 : Try.prog.cellsOf 3 = 1 := by kernel_rfl
    simp [Value.cells, h3] at e1 e2
    subst e1 e2
    exact ⟨n1, n2, rfl⟩

set_option maxRecDepth 100000 in
theorem packs_contract (H : Type) (enc : TypeId × Value → H) (W : World) (base : Nat) (args : Array Value) (ds gs : List (DataW H)) (before : List MemPlace)
    (hval : ∀ (j : Nat) t v, Try.f6.params[j]? = some t → args[j]? = some v → Value.okWide Try.prog W .any base t v)
    (hW : DataW.Whole enc Try.prog Try.f6.params.toList Rows.bitioPacksSpec.vars false W args.toList ds gs before) (hk : Rows.uptoSmall H (ds ++ gs) = true) :
    Calls Try.prog 6 args W fun e W' => ∃ v, e = .returned v ∧ Rows.bitioPacksSpec.post enc Try.prog Try.f6 false true false false W args v W' := by
  have hW' := hW
  obtain ⟨p, q, hA0, hV, rfl, hfz, hnd⟩ := hW
  have hA : DataW.TrodAll enc Try.prog W 0 (fun _ => true) true Try.f6.params.toList args.toList ds p := hA0
  rw [Try.params6] at hA hval
  obtain ⟨v0, vs0, d0, ds0, p0, q0, hargs, rfl, rfl, h0, r0⟩ := trodAll_cons hA
  obtain ⟨v1, vs1, d1, ds1, p1, q1, rfl, rfl, rfl, h1, r1⟩ := trodAll_cons r0
  obtain ⟨v2, vs2, d2, ds2, p2, q2, rfl, rfl, rfl, h2, r2⟩ := trodAll_cons r1
  obtain ⟨rfl, rfl, rfl⟩ := trodAll_nil r2
  obtain rfl : args = #[v0, v1, v2] := by cases args; simp_all
  obtain ⟨rfl, rfl⟩ := trodVars_none hV
  obtain ⟨A, len, cap, rfl⟩ := okWide_slice Try.underlying58 (hval 0 58 v0 rfl rfl)
  obtain ⟨s, rfl, rfl, rfl, hmax⟩ := open_string Try.underlying9 (hval 1 9 v1 rfl rfl) h1
  obtain ⟨n, cnt, rfl⟩ := packs_width (hval 2 60 v2 rfl rfl) h2
  clear hA0
  simp only [List.append_nil, List.nil_append] at hW' hk
  have hbb := bulk_bound hk
  rw [bulk_all_cons, bulk_all_cons, bulk_string] at hbb
  have hs : s.size ≤ 1048576 := by
    have e : s.data.toList.length = s.size := by simp
    omega
  obtain ⟨hlen, l, rfl, hsl, h64⟩ := packs_list h0 (by omega)
  have hlt0 : ∀ x ∈ p0, x.block < W.heap.size := fun x hx => hW'.lt x (by simp [hx])
  have hlt2 : ∀ x ∈ p2, x.block < W.heap.size := fun x hx => hW'.lt x (by simp [hx])
  refine (packs_any A cap l s n cnt W hlen hsl h64 hs).mono fun e W' ⟨he, hb⟩ => ?_
  subst he
  exact ⟨_, rfl, post_below (pa := p0 ++ p2) (pv := []) hW' (fun _ _ _ => trodAll_cons_mk (shut_bool Try.underlying4 _) trodAll_mk0)
    (fun sp hsp => by
      have h := trodAll_cons_mk (trod_kept laidOut (by kernel_rfl) (of_decide_eq_true (by kernel_rfl)) h0 hb hlt0 sp (fun x hx => hsp x (by simp [hx])))
        (trodAll_cons_mk (shut_string Try.underlying9 hmax) (trodAll_cons_mk (trod_kept laidOut (by kernel_rfl) (of_decide_eq_true (by kernel_rfl)) h2 hb hlt2 sp (fun x hx => hsp x (by simp [hx]))) trodAll_mk0))
      simp only [List.nil_append, List.append_nil] at h
      exact h) (fun _ _ => rfl) (by simp) hb (ok_one (by kernel_rfl) rfl (okWide_bool_mk Try.underlying4 _))⟩

set_option maxRecDepth 100000 in
theorem packs_lifted (os : Os) (started : os.Started) (H : Type) (enc : TypeId × Value → H) (F : Stop.Interp) :
    ReturnsInHanded {} Try.checked os 6 .any ((Rows.OpenSpec.upto Rows.bitioPacksSpec).pre6 enc Try.prog Try.f6 Rows.bitioPacksUptoRow.domain false) (((Rows.OpenSpec.upto Rows.bitioPacksSpec).at F).post enc Try.prog Try.f6 false true false false) := by
  refine returnsInHanded_of_cond (C := Try.checked) (s := Rows.OpenSpec.upto Rows.bitioPacksSpec) (k := Rows.uptoSmall) rfl own started (by kernel_rfl) Try.func6
    (OpenSpec.witness (enc := enc) (C := Try.checked) (s := Rows.OpenSpec.upto Rows.bitioPacksSpec) (k := Rows.uptoSmall) rfl false ⟨#[], #[.slice none 0 0, .string .empty, .agg #[.int .i64 0, .int .i64 0]], []⟩ 8 (by kernel_rfl) (by kernel_rfl) (by kernel_rfl)
      (x := ([.nil, .lit (.string []), .agg [.lit (.int .i64 0), .lit (.int .i64 0)]], [], [])) (by kernel_rfl) rfl (by kernel_rfl)) ?_
  intro W base args ds gs before hval hW _ hk _
  exact packs_contract H enc W base args ds gs before hval hW hk

theorem packs_proved : Rows.BitioPacksUptoSaid :=
  OpenClaim.holds_of_cond 6 Try.f6 rfl rfl rfl rfl rfl rfl rfl ⟨rfl, rfl, rfl, rfl, rfl⟩ rfl rfl rfl rfl rfl (by kernel_rfl) Try.func6 (by kernel_rfl)
    (of_decide_eq_true (by kernel_rfl)) (by unfold Func.isWrapper; first | (rw [if_pos (by decide +kernel)]; kernel_rfl) | (rw [if_neg (by decide +kernel)]; exact ⟨rfl, rfl⟩))
    (fun os started H enc _ F => packs_lifted os started H enc F)
end Go.Proofs.Ytmgngmnkmmhckaa
