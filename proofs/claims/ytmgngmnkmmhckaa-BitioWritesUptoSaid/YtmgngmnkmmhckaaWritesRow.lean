/-
  Whatever bits, numbers and texts are written: the program's text is the reference's (BitioWrites), where what is read is of bulk at most 1048576; no condition beside.
-/
import Derived.Test.YtmgngmnkmmhckaaRow
import Derived.Test.YtmgngmnkmmhckaaLWrites
set_option linter.unusedVariables false
namespace Go.Proofs.Ytmgngmnkmmhckaa
open Go.ChangeShapes Go.WideShapes Go.ChangeAt Go.RowKit Go.Deep
open Go.ChangeMaps (open_string shut_string)

theorem bulk_agg {H : Type} (ps : List (DataW H)) : Rows.uptoBulk (.agg ps) = Rows.uptoBulkAll ps + 1 := by simp only [Rows.uptoBulk]

theorem writes_script {H : Type} {enc : TypeId × Value → H} {W : World} {A : Option Addr} {len cap : Nat} {d : DataW H} {p : List MemPlace}
    (h : DataW.Trod enc Try.prog W 0 (fun _ => true) true 42 (.slice A len cap) d p) (hb : Rows.uptoBulk d ≤ 1048576) :
    len ≤ 1048576 ∧ ∃ K N V T, Script4 W A len K N V T := by
  obtain ⟨fuel, hf⟩ := h
  rcases open_structs Try.underlying42 Try.underlying47 (by kernel_rfl) (by kernel_rfl) hf with ⟨hcs, _⟩ | ⟨a, len', cap', m, D, Pl, hcs, hbb, hl, hm, hmm, hx, hi⟩
  · simp [Value.cells] at hcs
    obtain ⟨rfl, rfl, rfl⟩ := hcs
    exact ⟨Nat.zero_le _, fun _ => 0, fun _ => 0, fun _ => 0, fun _ => .empty, fun h => absurd h (by omega)⟩
  · simp [Value.cells] at hcs
    obtain ⟨rfl, rfl, rfl⟩ := hcs
    simp only [Prod.mk.injEq] at hx
    obtain ⟨rfl, _⟩ := hx
    rw [bulk_slice] at hb
    have h1 := bulk_length ((List.range len).map D)
    rw [List.length_map, List.length_range] at h1
    have hall : ∀ i, i < len → (W.cell? (a.add (i * 4 + 0)) = some (.int .i64 (cellI W (a.add (i * 4 + 0)))) ∧ W.cell? (a.add (i * 4 + 1)) = some (.int .u64 ((cellI W (a.add (i * 4 + 1))).toNat : Nat)) ∧
        W.cell? (a.add (i * 4 + 2)) = some (.int .i64 (cellI W (a.add (i * 4 + 2)))) ∧ W.cell? (a.add (i * 4 + 3)) = some (.string (cellS W (a.add (i * 4 + 3))))) ∧
        (cellI W (a.add (i * 4 + 1))).toNat < 18446744073709551616 ∧ (cellS W (a.add (i * 4 + 3))).size ≤ 1048576 := by
      intro i hil
      obtain ⟨ys, n, hD, hyl, hfs⟩ := hi i (by simp at hmm; omega)
      have hDm : D i ∈ (List.range len).map D := List.mem_map.2 ⟨i, List.mem_range.2 hil, rfl⟩
      have hDb := bulk_part hDm
      rw [hD, bulk_agg] at hDb
      obtain ⟨v0, y0, c0, _, t0⟩ := hfs 0 _ rfl
      obtain ⟨v1, y1, c1, _, t1⟩ := hfs 1 _ rfl
      obtain ⟨v2, y2, c2, _, t2⟩ := hfs 2 _ rfl
      obtain ⟨v3, y3, c3, hy3, t3⟩ := hfs 3 _ rfl
      obtain ⟨n0, e0, _⟩ := DataW.trod_int Try.underlying3 t0
      obtain ⟨n1, e1, _, w1⟩ := DataW.trod_int Try.underlying35 t1
      obtain ⟨n2, e2, _⟩ := DataW.trod_int Try.underlying3 t2
      obtain ⟨s3, e3, y3e, _⟩ := DataW.trod_string Try.underlying9 t3
      simp at e0 e1 e2 e3
      subst e0 e1 e2 e3
      have c0' : W.cell? (a.add (i * 4 + 0)) = some (.int .i64 n0) := c0
      have c1' : W.cell? (a.add (i * 4 + 1)) = some (.int .u64 n1) := c1
      have c2' : W.cell? (a.add (i * 4 + 2)) = some (.int .i64 n2) := c2
      have c3' : W.cell? (a.add (i * 4 + 3)) = some (.string s3) := c3
      have hn1 : 0 ≤ n1 ∧ n1 < 18446744073709551616 := by
        simp [Lit.wf, IntKind.min, IntKind.max, IntKind.signed, IntKind.bits] at w1
        omega
      have hs3 : s3.size ≤ 1048576 := by
        have hmem : y3.1 ∈ ys.map (·.1) := List.mem_map.2 ⟨y3, List.mem_of_getElem? hy3, rfl⟩
        have := bulk_part hmem
        rw [y3e] at this
        simp only [bulk_string] at this
        have e : s3.data.toList.length = s3.size := by simp
        omega
      unfold cellI cellS
      rw [c0', c1', c2', c3']
      have : ((n1.toNat : Nat) : Int) = n1 := by omega
      exact ⟨⟨rfl, by rw [this], rfl, rfl⟩, (by omega : n1.toNat < 18446744073709551616), hs3⟩
    refine ⟨by omega, fun i => cellI W (a.add (i * 4 + 0)), fun i => cellI W (a.add (i * 4 + 2)), fun i => (cellI W (a.add (i * 4 + 1))).toNat, fun i => cellS W (a.add (i * 4 + 3)), ?_⟩
    intro hpos
    obtain ⟨b, off, spot⟩ := a
    have hs0 : spot = none := by simpa [Addr.add] using World.cell?_spot (hall 0 hpos).1.1
    subst hs0
    have hblk := World.block_lt_of_cell? W _ (hall 0 hpos).1.1
    rw [Addr.add_lit] at hblk
    refine ⟨b, off, rfl, hblk, fun i hil => ?_⟩
    obtain ⟨⟨q0, q1, q2, q3⟩, q4, q5⟩ := hall i hil
    refine ⟨⟨?_, ?_, ?_, ?_⟩, q4, q5⟩
    · rw [Addr.add_lit] at q0
      show W.cell? ⟨b, off + i * 4, none⟩ = some (.int .i64 (cellI W ((⟨b, off, none⟩ : Addr).add (i * 4 + 0))))
      rw [Addr.add_lit]; exact q0
    · rw [Addr.add_lit] at q1
      show W.cell? ⟨b, off + i * 4 + 1, none⟩ = some (.int .u64 ((cellI W ((⟨b, off, none⟩ : Addr).add (i * 4 + 1))).toNat : Nat))
      rw [Addr.add_lit]; exact q1
    · rw [Addr.add_lit] at q2
      show W.cell? ⟨b, off + i * 4 + 2, none⟩ = some (.int .i64 (cellI W ((⟨b, off, none⟩ : Addr).add (i * 4 + 2))))
      rw [Addr.add_lit]; exact q2
    · rw [Addr.add_lit] at q3
      show W.cell? ⟨b, off + i * 4 + 3, none⟩ = some (.string (cellS W ((⟨b, off, none⟩ : Addr).add (i * 4 + 3))))
      rw [Addr.add_lit]; exact q3

set_option maxRecDepth 100000 in
theorem writes_contract (H : Type) (enc : TypeId × Value → H) (W : World) (base : Nat) (args : Array Value) (ds gs : List (DataW H)) (before : List MemPlace)
    (hval : ∀ (j : Nat) t v, Try.f5.params[j]? = some t → args[j]? = some v → Value.okWide Try.prog W .any base t v)
    (hW : DataW.Whole enc Try.prog Try.f5.params.toList Rows.bitioWritesSpec.vars false W args.toList ds gs before) (hk : Rows.uptoSmall H (ds ++ gs) = true) :
    Calls Try.prog 5 args W fun e W' => ∃ v, e = .returned v ∧ Rows.bitioWritesSpec.post enc Try.prog Try.f5 false true false false W args v W' := by
  have hW' := hW
  obtain ⟨p, q, hA0, hV, rfl, hfz, hnd⟩ := hW
  have hA : DataW.TrodAll enc Try.prog W 0 (fun _ => true) true Try.f5.params.toList args.toList ds p := hA0
  rw [Try.params5] at hA hval
  obtain ⟨v0, vs0, d0, ds0, p0, q0, hargs, rfl, rfl, h0, r0⟩ := trodAll_cons hA
  obtain ⟨rfl, rfl, rfl⟩ := trodAll_nil r0
  obtain rfl : args = #[v0] := by cases args; simp_all
  obtain ⟨rfl, rfl⟩ := trodVars_none hV
  obtain ⟨A, len, cap, rfl⟩ := okWide_slice Try.underlying42 (hval 0 42 v0 rfl rfl)
  clear hA0
  simp only [List.append_nil] at hW' hk
  have hbb := bulk_bound hk
  rw [bulk_all_cons, bulk_nil] at hbb
  obtain ⟨hlen, K, N, V, T, hscr⟩ := writes_script h0 (by omega)
  have hlt1 : ∀ x ∈ p0, x.block < W.heap.size := fun x hx => hW'.lt x hx
  refine (writes_any A len cap K N V T W hlen hscr).mono fun e W' ⟨he, hb⟩ => ?_
  subst he
  exact ⟨_, rfl, post_below (pa := p0) (pv := []) hW' (fun _ _ _ => trodAll_cons_mk (shut_bool Try.underlying4 _) trodAll_mk0)
    (fun sp hsp => by
      have h := trodAll_cons_mk (trod_kept laidOut (by kernel_rfl) (of_decide_eq_true (by kernel_rfl)) h0 hb hlt1 sp hsp) trodAll_mk0
      simp only [List.append_nil] at h
      exact h) (fun _ _ => rfl) (by simp) hb (ok_one (by kernel_rfl) rfl (okWide_bool_mk Try.underlying4 _))⟩

set_option maxRecDepth 100000 in
theorem writes_lifted (os : Os) (started : os.Started) (H : Type) (enc : TypeId × Value → H) (F : Stop.Interp) :
    ReturnsInHanded {} Try.checked os 5 .any ((Rows.OpenSpec.upto Rows.bitioWritesSpec).pre6 enc Try.prog Try.f5 Rows.bitioWritesUptoRow.domain false) (((Rows.OpenSpec.upto Rows.bitioWritesSpec).at F).post enc Try.prog Try.f5 false true false false) := by
  refine returnsInHanded_of_cond (C := Try.checked) (s := Rows.OpenSpec.upto Rows.bitioWritesSpec) (k := Rows.uptoSmall) rfl own started (by kernel_rfl) Try.func5
    (OpenSpec.witness (enc := enc) (C := Try.checked) (s := Rows.OpenSpec.upto Rows.bitioWritesSpec) (k := Rows.uptoSmall) rfl false ⟨#[], #[.slice none 0 0], []⟩ 8 (by kernel_rfl) (by kernel_rfl) (by kernel_rfl)
      (x := ([.nil], [], [])) (by kernel_rfl) rfl (by kernel_rfl)) ?_
  intro W base args ds gs before hval hW _ hk _
  exact writes_contract H enc W base args ds gs before hval hW hk

theorem writes_proved : Rows.BitioWritesUptoSaid :=
  OpenClaim.holds_of_cond 5 Try.f5 rfl rfl rfl rfl rfl rfl rfl ⟨rfl, rfl, rfl, rfl, rfl⟩ rfl rfl rfl rfl rfl (by kernel_rfl) Try.func5 (by kernel_rfl)
    (of_decide_eq_true (by kernel_rfl)) (by unfold Func.isWrapper; first | (rw [if_pos (by decide +kernel)]; kernel_rfl) | (rw [if_neg (by decide +kernel)]; exact ⟨rfl, rfl⟩))
    (fun os started H enc _ F => writes_lifted os started H enc F)
end Go.Proofs.Ytmgngmnkmmhckaa
