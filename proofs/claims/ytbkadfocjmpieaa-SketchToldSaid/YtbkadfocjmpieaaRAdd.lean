/-
  The reference: Add.
-/
import Derived.Test.YtbkadfocjmpieaaRNew
import Derived.Test.YtbkadfocjmpieaaSAdd
import Derived.Deep.RegionHeld3
set_option linter.unusedVariables false
namespace Go.Proofs.Ytbkadfocjmpieaa
open Go.RowKit

/-- a block whose first cells are bytes -/
def Bts (w : World) (g : Nat) (l : List Nat) : Prop := ∀ i, i < l.length → w.cell? ⟨g, i, none⟩ = some (.int .u8 (l.getD i 0 : Nat)) ∧ w.frozen? ⟨g, i, none⟩ = false
theorem Bts.drew {w : World} {g : Nat} {l : List Nat} (h : Bts w g l) : Bts w.drew g l := h
theorem Bts.drewN {w : World} {g : Nat} {l : List Nat} (h : Bts w g l) (n : Nat) : Bts (w.drewN n) g l := h
theorem Bts.set_ {w : World} {g : Nat} {l : List Nat} (h : Bts w g l) (k v : Nat) : Bts (w.setCell ⟨g, k, none⟩ (.int .u8 v)) g (l.set k v) := by
  intro i hi
  rw [List.length_set] at hi
  obtain ⟨c, f⟩ := h i hi
  rw [getD_setN]
  refine ⟨?_, by rw [World.frozen?_setCell]; exact f⟩
  by_cases e : k = i
  · subst e
    rw [if_pos ⟨rfl, hi⟩]; exact World.cell?_setCell_same' _ _ _ (by rw [c]; rfl)
  · rw [if_neg (fun x => e x.1)]
    refine Eq.trans (World.cell?_setCell_other _ _ _ _ (fun x => e ?_)) c
    simp at x
theorem Bts.text {w : World} {g c : Nat} {l : List Nat} {n : Nat} (h : Bts w g l) (hn : n = l.length) (hb : ∀ k, l.getD k 0 < 256) :
    (convert 42 9 (.slice (some ⟨g, 0, none⟩) n c)).run Try.prog w = .ok (.string (strOf l)) w := by
  subst hn
  have hr := run_convert_bytes_back (P := Try.prog) w 42 9 5 ⟨g, 0, none⟩ c (l.map UInt8.ofNat) Try.underlying42 Try.underlying5 Try.underlying9 (fun j hj => by
    have hj2 : j < l.length := by simpa using hj
    have hc := (h j hj2).1
    have ha : (⟨g, 0, none⟩ : Addr).add j = ⟨g, j, none⟩ := by unfold Addr.add; split <;> simp_all
    rw [ha, hc]
    have hk := hb j
    have e : l.getD j 0 = l[j] := by simp [List.getD, List.getElem?_eq_getElem hj2]
    rw [e] at hk ⊢
    simp only [List.getElem_map]
    congr 2
    rw [UInt8.toNat_ofNat']
    have : l[j] % 2 ^ 8 = l[j] := Nat.mod_eq_of_lt (by simpa using hk)
    rw [this])
  rw [List.length_map] at hr
  exact hr
/-- the bytes of a text, laid anew -/
theorem bts_new (s : ByteArray) (w : World) : ∃ (C : Nat) (w1 : World), (convert 9 42 (.string s)).run Try.prog w = .ok (.slice (some ⟨w.heap.size, 0, none⟩) s.size C) w1 ∧ Bts w1 w.heap.size (sN s) ∧ Below w.heap.size w w1 := by
  refine ⟨_, _, run_bytes_of_string (P := Try.prog) w 9 42 5 s Try.underlying9 Try.underlying42 Try.underlying5, ?_, ((Below.refl _ w).drew).alloc (Nat.le_refl _) _⟩
  intro i hi
  rw [length_sN] at hi
  refine ⟨?_, ?_⟩
  · have hg : (w.drew.alloc (.cells (bytesRow s (grownCap w s.size 0 5)) 5 ((bytesRow s (grownCap w s.size 0 5)).size, (bytesRow s (grownCap w s.size 0 5)).size + 1))).heap[w.heap.size]? = some (.cells (bytesRow s (grownCap w s.size 0 5)) 5 ((bytesRow s (grownCap w s.size 0 5)).size, (bytesRow s (grownCap w s.size 0 5)).size + 1)) := by
      show (w.heap.push _)[w.heap.size]? = _
      simp
    rw [cell_of_row _ w.heap.size i _ 5 _ hg, bytesRow_at s _ i hi, sN_getD s i hi]
    rfl
  · have := World.frozen?_alloc_mark w.drew (bytesRow s (grownCap w s.size 0 5)) 5 (bytesRow s (grownCap w s.size 0 5)).size ((bytesRow s (grownCap w s.size 0 5)).size + 1) i
    refine this.trans ?_
    have hle : ¬ (bytesRow s (grownCap w s.size 0 5)).size ≤ i := by
      unfold bytesRow
      have : s.data.size = s.size := rfl
      simp; omega
    simp [hle]

set_option maxRecDepth 100000 in
set_option maxHeartbeats 4000000 in
theorem radd_no (s : ByteArray) (h : Nat) (w : World) (hs : s.size ≤ 140737488355328) (hn : ¬ exOk s) : Calls Try.prog 13 #[.string s, .int .u64 h] w fun e w' => e = .returned (.tuple #[.string ⟨#[]⟩, .int .i64 4]) ∧ w = w' := by
  have hc := rexp_any s w hs
  rw [(ex_no hn).1, (ex_no hn).2] at hc
  have HC := Lib.hid hc
  clear hc hn
  go_enter Try.func13, Try.ntmps13
  go_wp2_with fail
  refine HC.out.mono ?_
  rintro e w' ⟨rfl, rfl⟩
  go_wp2_with fail
  go_ret2
  exact ⟨rfl, rfl⟩

theorem adL_lt {s : ByteArray} {i r : Nat} (hr : r < 256) (k : Nat) : (adL (sN s) i r).getD k 0 < 256 := by
  rw [getD_adL]
  have := sN_lt s i
  have := sN_lt s k
  split <;> omega
set_option maxRecDepth 100000 in
set_option maxHeartbeats 4000000 in
theorem radd_yes (s : ByteArray) (h : Nat) (w : World) (hh : h < 18446744073709551616) (hy : exOk s) : Calls Try.prog 13 #[.string s, .int .u64 h] w fun e w' => e = .returned (.tuple #[.string (strOf (adL (sN s) (adAt (exP s) h) (rk (exP s) h))), .int .i64 0]) ∧ Below w.heap.size w w' := by
  have hs := ex_size hy
  have hc := rexp_any s w (by omega)
  obtain ⟨⟨h4, h16, hsz⟩, hall⟩ := id hy
  rw [(ex_yes hy).1, (ex_yes hy).2] at hc
  have hrk := rk_le h (show exP s ≤ 64 by omega)
  obtain ⟨p, hp⟩ : ∃ p, p = exP s := ⟨_, rfl⟩
  rw [← hp] at hc h4 h16 hsz hrk ⊢
  have hat := adAt_lt (p := p) (h := h) (by omega) hh
  rw [← hsz] at hat
  have hrank := rank_any p h
  obtain ⟨m, hm⟩ : ∃ m, m = 64 - p := ⟨_, rfl⟩
  obtain ⟨A, hA⟩ : ∃ a, a = adAt p h := ⟨_, rfl⟩
  have hae : A = h / 2 ^ m := by rw [hA, hm]; rfl
  rw [← hA] at hat ⊢
  have hmi : (64 : Int) - (p : Int) = (m : Int) := by omega
  have f1 : ((h : Int) / 2 ^ m) = (A : Int) := by rw [cast_div_pow, hae]
  obtain ⟨R, hR⟩ : ∃ R, R = rk p h := ⟨_, rfl⟩
  rw [← hR] at hrank hrk ⊢
  obtain ⟨C, w1, hcv, hbts, hbel⟩ := bts_new s w
  have hx := (hbts A (by rw [length_sN]; exact hat)).1
  have hfx := (hbts A (by rw [length_sN]; exact hat)).2
  obtain ⟨X, hX⟩ : ∃ X, X = (sN s).getD A 0 := ⟨_, rfl⟩
  rw [← hX] at hx
  obtain ⟨M, hM⟩ : ∃ M, M = max X R := ⟨_, rfl⟩
  have hmN : max X R = M := hM.symm
  have hmx : max (X : Int) (R : Int) = (M : Int) := by omega
  have hset : Bts (w1.setCell ⟨w.heap.size, A, none⟩ (.int .u8 M)) w.heap.size (adL (sN s) A R) := by
    have := hbts.set_ A M
    unfold adL
    rw [← hX, ← hM]
    exact this
  have hlen : s.size = (adL (sN s) A R).length := by unfold adL; rw [List.length_set, length_sN]
  have htx := hset.drew.text (c := C) hlen (adL_lt (by omega))
  obtain ⟨g, hg⟩ : ∃ g, g = w.heap.size := ⟨_, rfl⟩
  have hbs := hbel.setCell (p := ⟨g, A, none⟩) (by rw [hg]; exact Nat.le_refl _) (.int .u8 M)
  have Hg := Lib.hid hg
  rw [← hg] at hcv hx hfx htx
  have HE := Lib.hid (And.intro hc (And.intro (fun w => hrank w (by omega) h4 hh) (And.intro hbs htx)))
  have hmm : m ≤ 60 := by omega
  clear hc hrank hbs htx hset hlen hM hX hbts hbel hR hA hae hm hall hsz hp hy hrk hg
  go_enter Try.func13, Try.ntmps13
  go_wp2_with fail
  refine HE.out.1.mono ?_
  rintro e w' ⟨rfl, rfl⟩
  go_wp2_with fail
  go_region_with ((go_at_call 26; refine (HE.out.2.1 _).mono ?_; rintro e w' ⟨rfl, rfl⟩))
  all_goals
    have htx := HE.out.2.2.2
    go_wp2_with fail
    go_ret2
    exact ⟨rfl, HE.out.2.2.1.drew⟩
theorem radd_any (s : ByteArray) (h : Nat) (w : World) (hs : s.size ≤ 140737488355328) (hh : h < 18446744073709551616) : Calls Try.prog 13 #[.string s, .int .u64 h] w fun e w' => e = .returned (.tuple #[.string (adV s h), .int .i64 (exE s)]) ∧ Below w.heap.size w w' := by
  by_cases hy : exOk s
  · have := radd_yes s h w hh hy
    unfold adV
    rw [(ex_yes hy).1, if_pos hy]
    exact this
  · have := radd_no s h w hs hy
    unfold adV
    rw [(ex_no hy).1, if_neg hy]
    exact this.mono fun e w' ⟨he, hw⟩ => ⟨he, by rw [← hw]; exact Below.refl _ _⟩
theorem runion_any (a b : ByteArray) (w : World) (ha : a.size ≤ 140737488355328) (hb : b.size ≤ 140737488355328) : Calls Try.prog 15 #[.string a, .string b] w fun e w' => e = .returned (.tuple #[.string (unV a b), .int .i64 (unE a b)]) ∧ Below w.heap.size w w' := by
  unfold unV unE
  by_cases h : exOk a ∧ exOk b
  · rw [if_pos h, if_pos h]
    by_cases h2 : exP a = exP b
    · rw [if_pos h2, if_pos h2]; exact runion_yes a b w h.1 h.2 h2
    · rw [if_neg h2, if_neg h2]
      exact (runion_arg a b w h.1 h.2 h2).mono fun e w' ⟨he, hw⟩ => ⟨he, by rw [← hw]; exact Below.refl _ _⟩
  · rw [if_neg h, if_neg h]
    exact (runion_no a b w ha hb h).mono fun e w' ⟨he, hw⟩ => ⟨he, by rw [← hw]; exact Below.refl _ _⟩
end Go.Proofs.Ytbkadfocjmpieaa
