/-
  The union of two sketches.
-/
import Derived.Test.YtbkadfocjmpieaaSNew
import Derived.Deep.RegionWith
set_option linter.unusedVariables false
namespace Go.Proofs.Ytbkadfocjmpieaa
open Go.RowKit

theorem info5 : (Try.prog.info? 5).map (fun i => (i.zero, i.size, i.bytes)) = some (some (.int .u8 0), 1, 1) := by kernel_rfl
def unL (l m : List Nat) : List Nat := List.zipWith max l m
theorem length_unL {l m : List Nat} (h : l.length = m.length) : (unL l m).length = l.length := by unfold unL; rw [List.length_zipWith]; omega
theorem getD_unL {l m : List Nat} (h : l.length = m.length) (i : Nat) : (unL l m).getD i 0 = max (l.getD i 0) (m.getD i 0) := by
  unfold unL
  rw [List.getD, List.getElem?_zipWith]
  rcases Nat.lt_or_ge i l.length with h1 | h1
  · simp [List.getD, h1, show i < m.length by omega]
  · simp [List.getD, List.getElem?_eq_none h1, List.getElem?_eq_none (show m.length ≤ i by omega)]
/-- the part that is done -/
def unK (l m : List Nat) (k : Nat) : List Nat := (unL l m).take k ++ List.replicate (l.length - k) 0
theorem length_unK {l m : List Nat} (h : l.length = m.length) {k : Nat} (hk : k ≤ l.length) : (unK l m k).length = l.length := by
  unfold unK
  rw [List.length_append, List.length_take, length_unL h, List.length_replicate]; omega
theorem ext_getDN {l m : List Nat} (hl : l.length = m.length) (h : ∀ i, i < l.length → l.getD i 0 = m.getD i 0) : l = m := by
  refine List.ext_getElem hl fun i h1 h2 => ?_
  have := h i h1
  simpa [List.getD, h1, h2] using this
theorem getD_setN (l : List Nat) (i v k : Nat) : (l.set i v).getD k 0 = if i = k ∧ i < l.length then v else l.getD k 0 := by
  rw [List.getD, List.getElem?_set]
  by_cases h : i = k
  · subst h
    by_cases h2 : i < l.length
    · rw [if_pos rfl, if_pos h2, if_pos ⟨rfl, h2⟩]; rfl
    · rw [if_pos rfl, if_neg h2, if_neg (fun x => h2 x.2), List.getD, List.getElem?_eq_none (by omega)]
  · rw [if_neg h, if_neg (fun x => h x.1)]; rfl
theorem getD_unK {l m : List Nat} (h : l.length = m.length) {k : Nat} (hk : k ≤ l.length) (j : Nat) : (unK l m k).getD j 0 = if j < k then (unL l m).getD j 0 else 0 := by
  have hu := length_unL h
  unfold unK
  rw [List.getD, List.getElem?_append, List.length_take, hu, Nat.min_eq_left hk]
  split
  · rename_i hj
    rw [List.getElem?_take, if_pos hj]; rfl
  · rw [List.getElem?_replicate]; split <;> rfl
theorem unK_step {l m : List Nat} (h : l.length = m.length) {k : Nat} (hk : k < l.length) : (unK l m k).set k (max (l.getD k 0) (m.getD k 0)) = unK l m (k + 1) := by
  refine ext_getDN (by rw [List.length_set, length_unK h (by omega), length_unK h (by omega)]) fun j hj => ?_
  rw [getD_setN, length_unK h (by omega), getD_unK h (by omega), getD_unK h (by omega)]
  by_cases e : k = j
  · subst e
    rw [if_pos ⟨rfl, hk⟩, if_pos (by omega), getD_unL h]
  · rw [if_neg (fun x => e x.1)]
    by_cases e2 : j < k
    · rw [if_pos e2, if_pos (by omega)]
    · rw [if_neg e2, if_neg (by omega)]
theorem unK_full {l m : List Nat} (h : l.length = m.length) : unK l m l.length = unL l m := by
  unfold unK
  rw [Nat.sub_self, List.replicate_zero, List.append_nil, List.take_of_length_le (by rw [length_unL h]; exact Nat.le_refl _)]

set_option maxRecDepth 100000 in
set_option maxHeartbeats 4000000 in
theorem meet_any (i x y n go gx B : Nat) (L : List Nat) (w : World) (hi : i < n) (hL : L.length = n) (hown : w.ownsRow B 5 1 (.slice (some ⟨go, 0, none⟩) n n) n (u8s L)) (hb : Blk w gx 42 #[.slice (some ⟨go, 0, none⟩) n n]) :
    Calls Try.prog 28 #[.int .i64 i, .int .u8 x, .int .u8 y, .pointer (some ⟨gx, 0, none⟩)] w fun e w' => e = .returned (.tuple #[]) ∧ w.setCell ⟨go, i, none⟩ (.int .u8 (max x y : Nat)) = w' := by
  have c0 : w.cell? ⟨gx, 0, none⟩ = some (.slice (some ⟨go, 0, none⟩) n n) := by rw [hb.cell 0]; rfl
  have hx := hown.cellAt i (by omega)
  rw [u8s_get (by omega)] at hx
  have hfx := hown.frozenAt i
  have hmx : max (x : Int) (y : Int) = ((max x y : Nat) : Int) := by omega
  obtain ⟨M, hM⟩ : ∃ M, M = max x y := ⟨_, rfl⟩
  rw [← hM] at hmx
  rw [← hM]
  have hmN : max x y = M := hM.symm
  clear hM hown hb
  go_enter Try.func28, Try.ntmps28
  go_wp2_with fail
  go_end0
  exact ⟨rfl, rfl⟩

set_option maxRecDepth 100000 in
set_option maxHeartbeats 4000000 in
theorem both_any (a b : ByteArray) (n go gx B : Nat) (w : World) (ha : a.size = n) (hb : b.size = n) (hn : n ≤ 65536) (hB : B ≤ go) (hne : gx ≠ go) (hown : w.ownsRow B 5 1 (.slice (some ⟨go, 0, none⟩) n n) n (u8s (unK (sN a) (sN b) 0))) (hx : Blk w gx 42 #[.slice (some ⟨go, 0, none⟩) n n]) :
    Calls Try.prog 27 #[.string a, .string b, .func (.func 28) #[] #[.pointer (some ⟨gx, 0, none⟩)]] w fun e w' => e = .returned (.tuple #[]) ∧ w'.ownsRow B 5 1 (.slice (some ⟨go, 0, none⟩) n n) n (u8s (unL (sN a) (sN b))) ∧ Only (fun k => k = go) w w' ∧ Blk w' gx 42 #[.slice (some ⟨go, 0, none⟩) n n] := by
  have hlen : (sN a).length = (sN b).length := by rw [length_sN, length_sN, ha, hb]
  have hla : (sN a).length = n := by rw [length_sN, ha]
  have HW := Lib.hid (And.intro hown hx)
  have HL := Lib.hid (And.intro hlen hla)
  clear hown hx hlen hla
  have hab : b.size = a.size := by omega
  go_enter Try.func27, Try.ntmps27
  go_wp2_with fail
  go_loopg [9] n (fun g i wr => ∃ k : Nat, k + g = n ∧ i = .int .i64 k ∧ wr.ownsRow B 5 1 (.slice (some ⟨go, 0, none⟩) n n) n (u8s (unK (sN a) (sN b) k)) ∧ Only (fun k => k = go) w wr ∧ Blk wr gx 42 #[.slice (some ⟨go, 0, none⟩) n n])
  case atStart => exact ⟨0, by omega, rfl, HW.out.1, Only.refl _ _, HW.out.2⟩
  case round =>
    obtain ⟨k, hk, rfl, hown, ho, hx⟩ := hrel
    clear HW
    have HR := Lib.hid (And.intro hown (And.intro ho hx))
    clear hown ho hx
    by_cases hlt : k < n
    · have hka : k < a.size := by omega
      have hkb : k < b.size := by omega
      have hga := sN_getD a k hka
      have hgb := sN_getD b k hkb
      have HG := Lib.hid (And.intro hga hgb)
      have hlk : (unK (sN a) (sN b) k).length = n := by rw [length_unK HL.out.1 (by rw [HL.out.2]; omega), HL.out.2]
      have hkn : (k : Int) < (a.size : Int) := by omega
      have HM : Hid (∀ d, Calls Try.prog 28 #[.int .i64 k, .int .u8 (a[k].toNat), .int .u8 (b[k].toNat), .pointer (some ⟨gx, 0, none⟩)] (wr.drewN d) fun e w' => e = .returned (.tuple #[]) ∧ (wr.drewN d).setCell ⟨go, k, none⟩ (.int .u8 (max a[k].toNat b[k].toNat : Nat)) = w') := fun d =>
        meet_any k a[k].toNat b[k].toNat n go gx B (unK (sN a) (sN b) k) (wr.drewN d) hlt hlk HR.out.1 HR.out.2.2
      have HX : Hid (((wr.drewN 1).setCell ⟨go, k, none⟩ (.int .u8 (max a[k].toNat b[k].toNat : Nat))).ownsRow B 5 1 (.slice (some ⟨go, 0, none⟩) n n) n (u8s (unK (sN a) (sN b) (k + 1))) ∧ Only (fun k => k = go) w ((wr.drewN 1).setCell ⟨go, k, none⟩ (.int .u8 (max a[k].toNat b[k].toNat : Nat))) ∧ Blk ((wr.drewN 1).setCell ⟨go, k, none⟩ (.int .u8 (max a[k].toNat b[k].toNat : Nat))) gx 42 #[.slice (some ⟨go, 0, none⟩) n n]) := by
        refine ⟨?_, ?_, ?_⟩
        · have hst := (HR.out.1.stored k (.int .u8 (max a[k].toNat b[k].toNat : Nat))).1
          rw [u8s_set, ← HG.out.1, ← HG.out.2, unK_step HL.out.1 (by rw [HL.out.2]; omega)] at hst
          rw [← HG.out.1, ← HG.out.2]
          exact hst
        · exact Only.setCell (F := fun k => k = go) (HR.out.2.1.drewN 1) (p := ⟨go, k, none⟩) (.inl rfl) _
        · exact (HR.out.2.2.drewN 1).far hne _
      clear hga hgb hlk
      go_upto_region 3 with fail
      go_region_with ((go_at_call 28; refine (HM.out 1).mono ?_; rintro e w2 ⟨rfl, rfl⟩))
      all_goals go_wp2_with fail
      all_goals go_roundg (gk - 1)
      all_goals first | omega | exact ⟨k + 1, by omega, by go_num, HX.out⟩
    · have hkn : k = n := by omega
      have hfin := HR.out.1
      rw [hkn, ← HL.out.2, unK_full HL.out.1, HL.out.2] at hfin
      have HF := Lib.hid hfin
      clear hfin hkn
      go_wp2_with fail
      go_end0
      exact ⟨rfl, HF.out, HR.out.2.1, HR.out.2.2⟩
end Go.Proofs.Ytbkadfocjmpieaa
