/-
  Whatever bytes and calls: the program's reader answers as the reference's does (BitioReads), where what is read is of bulk at most 1048576; no condition beside.
-/
import Derived.Test.YtmgngmnkmmhckaaRow
import Derived.Test.YtmgngmnkmmhckaaLReads
set_option linter.unusedVariables false
namespace Go.Proofs.Ytmgngmnkmmhckaa
open Go.ChangeShapes Go.WideShapes Go.ChangeAt Go.RowKit Go.Deep
open Go.ChangeMaps (open_string shut_string)

theorem reads_script {H : Type} {enc : TypeId × Value → H} {W : World} {A : Option Addr} {len cap : Nat} {d : DataW H} {p : List MemPlace}
    (h : DataW.Trod enc Try.prog W 0 (fun _ => true) true 22 (.slice A len cap) d p) (hb : Rows.uptoBulk d ≤ 1048576) :
    len ≤ 1048576 ∧ ∃ K N, Script2 W A len K N := by
  obtain ⟨fuel, hf⟩ := h
  rcases open_structs Try.underlying22 Try.underlying31 (by kernel_rfl) (by kernel_rfl) hf with ⟨hcs, _⟩ | ⟨a, len', cap', m, D, Pl, hcs, hbb, hl, hm, hmm, hx, hi⟩
  · simp [Value.cells] at hcs
    obtain ⟨rfl, rfl, rfl⟩ := hcs
    exact ⟨Nat.zero_le _, fun _ => 0, fun _ => 0, fun h => absurd h (by omega)⟩
  · simp [Value.cells] at hcs
    obtain ⟨rfl, rfl, rfl⟩ := hcs
    simp only [Prod.mk.injEq] at hx
    obtain ⟨rfl, _⟩ := hx
    rw [bulk_slice] at hb
    have h1 := bulk_length ((List.range len).map D)
    rw [List.length_map, List.length_range] at h1
    refine ⟨by omega, fun i => cellI W (a.add (i * 2 + 0)), fun i => cellI W (a.add (i * 2 + 1)), ?_⟩
    intro hpos
    have hcell : ∀ i, i < len → ∀ j, j < 2 → W.cell? (a.add (i * 2 + j)) = some (.int .i64 (cellI W (a.add (i * 2 + j)))) := by
      intro i hil j hj
      obtain ⟨ys, n, _, _, hfs⟩ := hi i (by simp at hmm; omega)
      have hf2 : ∃ f : Field, (#[{ name := "Kind", type := 3, offset := 0, embedded := false, tag := "", pkgPath := "", byteOffset := 0 },
        { name := "N", type := 3, offset := 1, embedded := false, tag := "", pkgPath := "", byteOffset := 8 }] : Array Field)[j]? = some f ∧ f.type = 3 := by
        match j, hj with
        | 0, _ => exact ⟨_, rfl, rfl⟩
        | 1, _ => exact ⟨_, rfl, rfl⟩
      obtain ⟨f, hfj, hft⟩ := hf2
      obtain ⟨v, y, hc, _, ht⟩ := hfs j f hfj
      rw [hft] at ht
      obtain ⟨n, hn, _⟩ := DataW.trod_int Try.underlying3 ht
      simp at hn
      subst hn
      have hc' : W.cell? (a.add (i * 2 + j)) = some (.int .i64 n) := hc
      unfold cellI
      rw [hc']
    obtain ⟨b, off, spot⟩ := a
    have hs0 : spot = none := by simpa [Addr.add] using World.cell?_spot (hcell 0 hpos 0 (by omega))
    subst hs0
    have hblk := World.block_lt_of_cell? W _ (hcell 0 hpos 0 (by omega))
    rw [Addr.add_lit] at hblk
    refine ⟨b, off, rfl, hblk, fun i hil => ⟨?_, ?_⟩⟩
    · have := hcell i hil 0 (by omega)
      rw [Addr.add_lit] at this
      show W.cell? ⟨b, off + i * 2, none⟩ = some (.int .i64 (cellI W ((⟨b, off, none⟩ : Addr).add (i * 2 + 0))))
      rw [Addr.add_lit]
      exact this
    · have := hcell i hil 1 (by omega)
      rw [Addr.add_lit] at this
      show W.cell? ⟨b, off + i * 2 + 1, none⟩ = some (.int .i64 (cellI W ((⟨b, off, none⟩ : Addr).add (i * 2 + 1))))
      rw [Addr.add_lit]
      exact this

set_option maxRecDepth 100000 in
theorem reads_contract (H : Type) (enc : TypeId × Value → H) (W : World) (base : Nat) (args : Array Value) (ds gs : List (DataW H)) (before : List MemPlace)
    (hval : ∀ (j : Nat) t v, Try.f3.params[j]? = some t → args[j]? = some v → Value.okWide Try.prog W .any base t v)
    (hW : DataW.Whole enc Try.prog Try.f3.params.toList Rows.bitioReadsSpec.vars false W args.toList ds gs before) (hk : Rows.uptoSmall H (ds ++ gs) = true) :
    Calls Try.prog 3 args W fun e W' => ∃ v, e = .returned v ∧ Rows.bitioReadsSpec.post enc Try.prog Try.f3 false true false false W args v W' := by
  have hW' := hW
  obtain ⟨p, q, hA0, hV, rfl, hfz, hnd⟩ := hW
  have hA : DataW.TrodAll enc Try.prog W 0 (fun _ => true) true Try.f3.params.toList args.toList ds p := hA0
  rw [Try.params3] at hA hval
  obtain ⟨v0, vs0, d0, ds0, p0, q0, hargs, rfl, rfl, h0, r0⟩ := trodAll_cons hA
  obtain ⟨v1, vs1, d1, ds1, p1, q1, rfl, rfl, rfl, h1, r1⟩ := trodAll_cons r0
  obtain ⟨rfl, rfl, rfl⟩ := trodAll_nil r1
  obtain rfl : args = #[v0, v1] := by cases args; simp_all
  obtain ⟨rfl, rfl⟩ := trodVars_none hV
  obtain ⟨s, rfl, rfl, rfl, hmax⟩ := open_string Try.underlying9 (hval 0 9 v0 rfl rfl) h0
  obtain ⟨A, len, cap, rfl⟩ := okWide_slice Try.underlying22 (hval 1 22 v1 rfl rfl)
  clear hA0
  simp only [List.append_nil, List.nil_append] at hW' hk
  have hbb := bulk_bound hk
  rw [bulk_all_cons, bulk_all_cons, bulk_nil, bulk_string] at hbb
  have hs : s.size ≤ 1048576 := by
    have e : s.data.toList.length = s.size := by simp
    omega
  obtain ⟨hlen, K, N, hscr⟩ := reads_script h1 (by omega)
  have hlt1 : ∀ x ∈ p1, x.block < W.heap.size := fun x hx => hW'.lt x hx
  refine (reads_any s A len cap K N W hs hlen hscr).mono fun e W' ⟨he, hb⟩ => ?_
  subst he
  exact ⟨_, rfl, post_below (pa := p1) (pv := []) hW' (fun _ _ _ => trodAll_cons_mk (shut_bool Try.underlying4 _) trodAll_mk0)
    (fun sp hsp => by
      have h := trodAll_cons_mk (shut_string Try.underlying9 hmax) (trodAll_cons_mk (trod_kept laidOut (by kernel_rfl) (of_decide_eq_true (by kernel_rfl)) h1 hb hlt1 sp hsp) trodAll_mk0)
      simp only [List.nil_append, List.append_nil] at h
      exact h) (fun _ _ => rfl) (by simp) hb (ok_one (by kernel_rfl) rfl (okWide_bool_mk Try.underlying4 _))⟩

set_option maxRecDepth 100000 in
theorem reads_lifted (os : Os) (started : os.Started) (H : Type) (enc : TypeId × Value → H) (F : Stop.Interp) :
    ReturnsInHanded {} Try.checked os 3 .any ((Rows.OpenSpec.upto Rows.bitioReadsSpec).pre6 enc Try.prog Try.f3 Rows.bitioReadsUptoRow.domain false) (((Rows.OpenSpec.upto Rows.bitioReadsSpec).at F).post enc Try.prog Try.f3 false true false false) := by
  refine returnsInHanded_of_cond (C := Try.checked) (s := Rows.OpenSpec.upto Rows.bitioReadsSpec) (k := Rows.uptoSmall) rfl own started (by kernel_rfl) Try.func3
    (OpenSpec.witness (enc := enc) (C := Try.checked) (s := Rows.OpenSpec.upto Rows.bitioReadsSpec) (k := Rows.uptoSmall) rfl false ⟨#[], #[.string .empty, .slice none 0 0], []⟩ 8 (by kernel_rfl) (by kernel_rfl) (by kernel_rfl)
      (x := ([.lit (.string []), .nil], [], [])) (by kernel_rfl) rfl (by kernel_rfl)) ?_
  intro W base args ds gs before hval hW _ hk _
  exact reads_contract H enc W base args ds gs before hval hW hk

theorem reads_proved : Rows.BitioReadsUptoSaid :=
  OpenClaim.holds_of_cond 3 Try.f3 rfl rfl rfl rfl rfl rfl rfl ⟨rfl, rfl, rfl, rfl, rfl⟩ rfl rfl rfl rfl rfl (by kernel_rfl) Try.func3 (by kernel_rfl)
    (of_decide_eq_true (by kernel_rfl)) (by unfold Func.isWrapper; first | (rw [if_pos (by decide +kernel)]; kernel_rfl) | (rw [if_neg (by decide +kernel)]; exact ⟨rfl, rfl⟩))
    (fun os started H enc _ F => reads_lifted os started H enc F)
end Go.Proofs.Ytmgngmnkmmhckaa
