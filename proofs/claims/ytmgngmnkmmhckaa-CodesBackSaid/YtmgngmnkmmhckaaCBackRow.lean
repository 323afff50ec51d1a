/-
  Numbers in any codes, one behind the other, are read again, and what is read has just that form (CodesBack): for every input; no condition.
-/
import Derived.Test.YtmgngmnkmmhckaaRow
import Derived.Test.YtmgngmnkmmhckaaLCBack2
set_option linter.unusedVariables false
namespace Go.Proofs.Ytmgngmnkmmhckaa
open Go.ChangeShapes Go.WideShapes Go.ChangeAt Go.RowKit Go.Deep

theorem list_three (l : List Value) (h : l.length = 3) : ∃ a b c, l = [a, b, c] := by
  match l, h with
  | [a, b, c], _ => exact ⟨a, b, c, rfl⟩
theorem numbers_script {H : Type} {enc : TypeId × Value → H} {W : World} {A : Option Addr} {len cap : Nat} {d : DataW H} {p : List MemPlace}
    (h : DataW.Trod enc Try.prog W 0 (fun _ => true) true 76 (.slice A len cap) d p) :
    len ≤ 9223372036854775807 ∧ ∃ kd K V, (∀ i, K i < 18446744073709551616) ∧ (∀ i, V i < 18446744073709551616) ∧ ScN W A len kd K V := by
  obtain ⟨fuel, hf⟩ := h
  rcases open_slice Try.underlying76 hf with ⟨hcs, _⟩ | ⟨a, len', cap', m, n, D, Pl, hcs, hbb, hl, hm, hmm, hx, hi⟩
  · simp [Value.cells] at hcs
    obtain ⟨rfl, rfl, rfl⟩ := hcs
    exact ⟨by omega, fun _ => 0, fun _ => 0, fun _ => 0, fun _ => (by decide : (0 : Nat) < 18446744073709551616), fun _ => (by decide : (0 : Nat) < 18446744073709551616), fun h => absurd h (by omega)⟩
  · simp [Value.cells] at hcs
    obtain ⟨rfl, rfl, rfl⟩ := hcs
    have hC : Try.prog.cellsOf 78 = 3 := by kernel_rfl
    have hC73 : Try.prog.cellsOf 73 = 2 := by kernel_rfl
    have hC5 : Try.prog.cellsOf 5 = 1 := by kernel_rfl
    have hC35 : Try.prog.cellsOf 35 = 1 := by kernel_rfl
    have hall : ∀ i, i < len → ∃ k K V : Int, W.cell? (a.add (i * 3 + 0)) = some (.int .u8 k) ∧ W.cell? (a.add (i * 3 + 1)) = some (.int .u64 K) ∧ W.cell? (a.add (i * 3 + 2)) = some (.int .u64 V) ∧ 0 ≤ k ∧ (0 ≤ K ∧ K < 18446744073709551616) ∧ (0 ≤ V ∧ V < 18446744073709551616) := by
      intro i hil
      obtain ⟨cs', hc, ht'⟩ := hi i (by simp at hmm; omega)
      rw [hC] at hc
      obtain ⟨ys, n', hn', hy, hlen, hyl, hff⟩ := DataW.trod_struct Try.underlying78 ht'
      obtain ⟨_, hcl, hat⟩ := World.cells?_some hc
      rw [hC] at hlen
      obtain ⟨x0, x1, x2, rfl⟩ := list_three cs' hlen
      have h0 : DataW.trod enc Try.prog W 0 (fun _ => true) true n' 73 (List.take (Try.prog.cellsOf 73) (List.drop 0 [x0, x1, x2])) = ys[0]? := hff 0 _ rfl
      have h1 : DataW.trod enc Try.prog W 0 (fun _ => true) true n' 35 (List.take (Try.prog.cellsOf 35) (List.drop 2 [x0, x1, x2])) = ys[1]? := hff 1 _ rfl
      rw [hC73] at h0
      rw [hC35] at h1
      simp only [List.take, List.drop] at h0 h1
      have hy0 : ys[0]? = some (ys[0]'(by rw [hyl]; decide)) := List.getElem?_eq_getElem _
      have hy1 : ys[1]? = some (ys[1]'(by rw [hyl]; decide)) := List.getElem?_eq_getElem _
      obtain ⟨zs, n2, _, _, _, hzl, hgg⟩ := DataW.trod_struct Try.underlying73 (h0.trans hy0)
      have g0 : DataW.trod enc Try.prog W 0 (fun _ => true) true n2 5 (List.take (Try.prog.cellsOf 5) (List.drop 0 [x0, x1])) = zs[0]? := hgg 0 _ rfl
      have g1 : DataW.trod enc Try.prog W 0 (fun _ => true) true n2 35 (List.take (Try.prog.cellsOf 35) (List.drop 1 [x0, x1])) = zs[1]? := hgg 1 _ rfl
      rw [hC5] at g0
      rw [hC35] at g1
      simp only [List.take, List.drop] at g0 g1
      have hz0 : zs[0]? = some (zs[0]'(by rw [hzl]; decide)) := List.getElem?_eq_getElem _
      have hz1 : zs[1]? = some (zs[1]'(by rw [hzl]; decide)) := List.getElem?_eq_getElem _
      obtain ⟨k, e0, _, w0⟩ := DataW.trod_int Try.underlying5 (g0.trans hz0)
      obtain ⟨K, e1, _, w1⟩ := DataW.trod_int Try.underlying35 (g1.trans hz1)
      obtain ⟨V, e2, _, w2⟩ := DataW.trod_int Try.underlying35 (h1.trans hy1)
      simp at e0 e1 e2
      subst e0 e1 e2
      have a0 := hat 0 (by decide)
      have a1 := hat 1 (by decide)
      have a2 := hat 2 (by decide)
      rw [Go.Deep.add_add] at a0 a1 a2
      simp [Lit.wf, IntKind.min, IntKind.max, IntKind.signed, IntKind.bits] at w0 w1 w2
      exact ⟨k, K, V, a0, a1, a2, by omega, by omega, by omega⟩
    have hcell : ∀ i, i < len → W.cell? (a.add (i * 3 + 0)) = some (.int .u8 ((cellI W (a.add (i * 3 + 0))).toNat : Nat)) ∧ W.cell? (a.add (i * 3 + 1)) = some (.int .u64 ((cellI W (a.add (i * 3 + 1))).toNat % 18446744073709551616 : Nat)) ∧ W.cell? (a.add (i * 3 + 2)) = some (.int .u64 ((cellI W (a.add (i * 3 + 2))).toNat % 18446744073709551616 : Nat)) := by
      intro i hil
      obtain ⟨k, K, V, c0, c1, c2, w0, w1, w2⟩ := hall i hil
      unfold cellI
      rw [c0, c1, c2]
      have q0 : ((k.toNat : Nat) : Int) = k := by omega
      have q1 : ((K.toNat % 18446744073709551616 : Nat) : Int) = K := by omega
      have q2 : ((V.toNat % 18446744073709551616 : Nat) : Int) = V := by omega
      exact ⟨by rw [q0], by rw [q1], by rw [q2]⟩
    refine ⟨by unfold maxLen at hm; omega, fun i => (cellI W (a.add (i * 3 + 0))).toNat, fun i => (cellI W (a.add (i * 3 + 1))).toNat % 18446744073709551616, fun i => (cellI W (a.add (i * 3 + 2))).toNat % 18446744073709551616, fun i => Nat.mod_lt _ (by decide), fun i => Nat.mod_lt _ (by decide), ?_⟩
    intro hpos
    obtain ⟨b, off, spot⟩ := a
    have hs0 : spot = none := by
      have := (hcell 0 hpos).1
      simpa [Addr.add] using World.cell?_spot this
    subst hs0
    have hblk := World.block_lt_of_cell? W _ (hcell 0 hpos).1
    rw [Addr.add_lit] at hblk
    refine ⟨b, off, rfl, hblk, fun i hil => ?_⟩
    obtain ⟨q1, q2, q3⟩ := hcell i hil
    refine ⟨?_, ?_, ?_⟩
    · rw [Addr.add_lit] at q1
      show W.cell? ⟨b, off + i * 3 + 0, none⟩ = some (.int .u8 ((cellI W ((⟨b, off, none⟩ : Addr).add (i * 3 + 0))).toNat : Nat))
      rw [Addr.add_lit]; exact q1
    · rw [Addr.add_lit] at q2
      show W.cell? ⟨b, off + i * 3 + 1, none⟩ = some (.int .u64 ((cellI W ((⟨b, off, none⟩ : Addr).add (i * 3 + 1))).toNat % 18446744073709551616 : Nat))
      rw [Addr.add_lit]; exact q2
    · rw [Addr.add_lit] at q3
      show W.cell? ⟨b, off + i * 3 + 2, none⟩ = some (.int .u64 ((cellI W ((⟨b, off, none⟩ : Addr).add (i * 3 + 2))).toNat % 18446744073709551616 : Nat))
      rw [Addr.add_lit]; exact q3

set_option maxRecDepth 100000 in
theorem cback_lifted (os : Os) (started : os.Started) (H : Type) (enc : TypeId × Value → H) :
    ReturnsInHanded {} Try.checked os 9 .any (Rows.codesBackSpec.pre6 enc Try.prog Try.f9 Rows.codesBackRow.domain false) (Rows.codesBackSpec.post enc Try.prog Try.f9 false true false false) := by
  refine returnsInHanded_of_change (C := Try.checked) own started (by kernel_rfl) Try.func9
    (ChangeSpec.witness6 (enc := enc) (C := Try.checked) false ⟨#[], #[.slice none 0 0], []⟩ 8 (by kernel_rfl) (by kernel_rfl) (by kernel_rfl) (by kernel_rfl)) ?_
  intro W base args ds gs before hval0 hW hcnd _
  have hval : ∀ (j : Nat) t v, Try.f9.params[j]? = some t → args[j]? = some v → Value.okWide Try.prog W .any base t v := hval0
  have hW' := hW
  obtain ⟨p, q, hA0, hV, rfl, hfz, hnd⟩ := hW
  have hA : DataW.TrodAll enc Try.prog W 0 (fun _ => true) true Try.f9.params.toList args.toList ds p := hA0
  rw [Try.params9] at hA hval
  obtain ⟨v0, vs0, d0, ds0, p0, q0, hargs, rfl, rfl, h0, r0⟩ := trodAll_cons hA
  obtain ⟨rfl, rfl, rfl⟩ := trodAll_nil r0
  obtain rfl : args = #[v0] := by cases args; simp_all
  obtain ⟨rfl, rfl⟩ := trodVars_none hV
  obtain ⟨A, len, cap, rfl⟩ := okWide_slice Try.underlying76 (hval 0 76 v0 rfl rfl)
  clear hA0 hval0
  simp only [List.append_nil] at hW'
  obtain ⟨hlen, kd, K, V, hK, hVV, hscr⟩ := numbers_script h0
  have hlt1 : ∀ x ∈ p0, x.block < W.heap.size := fun x hx => hW'.lt x hx
  refine (cback_any A len cap kd K V hK hVV W hlen hscr).mono fun e W' ⟨he, hb⟩ => ?_
  subst he
  exact ⟨_, rfl, post_below (pa := p0) (pv := []) hW' (fun _ _ _ => trodAll_cons_mk (shut_bool Try.underlying4 _) trodAll_mk0)
    (fun sp hsp => by
      have h := trodAll_cons_mk (trod_kept laidOut (by kernel_rfl) (of_decide_eq_true (by kernel_rfl)) h0 hb hlt1 sp hsp) trodAll_mk0
      simp only [List.append_nil] at h
      exact h) (fun _ _ => rfl) (by simp) hb (ok_one (by kernel_rfl) rfl (okWide_bool_mk Try.underlying4 _))⟩

theorem cback_proved : Rows.CodesBackSaid :=
  OpenClaim.holds_of_wide 9 Try.f9 rfl rfl rfl rfl rfl rfl rfl ⟨rfl, rfl, rfl, rfl, rfl⟩ rfl rfl rfl rfl rfl (by kernel_rfl) Try.func9 (by kernel_rfl)
    (of_decide_eq_true (by kernel_rfl)) (by unfold Func.isWrapper; first | (rw [if_pos (by decide +kernel)]; kernel_rfl) | (rw [if_neg (by decide +kernel)]; exact ⟨rfl, rfl⟩))
    (fun os started H enc _ => cback_lifted os started H enc)
end Go.Proofs.Ytmgngmnkmmhckaa
