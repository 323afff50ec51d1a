/-
  A sketch of numbers: the walk.
-/
import Derived.Test.YtbkadfocjmpieaaSAny
import Derived.Test.YtbkadfocjmpieaaSAwake
set_option linter.unusedVariables false
namespace Go.Proofs.Ytbkadfocjmpieaa
open Go.RowKit

/-- a slice of numbers that reads as a list -/
def SlU (w : World) (A : Option Addr) (l : List Nat) : Prop := ∀ i, i < l.length → ∃ a, A = some a ∧ w.cell? (a.add i) = some (.int .u64 (l.getD i 0 : Nat))
theorem SlU.below {w w' : World} {A : Option Addr} {l : List Nat} (h : SlU w A l) (hb : Below w.heap.size w w') : SlU w' A l := by
  intro i hi
  obtain ⟨a, rfl, hc⟩ := h i hi
  exact ⟨a, rfl, (hb.cell (World.block_lt_of_cell? w _ hc)).trans hc⟩
theorem SlU.take {w : World} {A : Option Addr} {l : List Nat} (h : SlU w A l) (k : Nat) : SlU w A (l.take k) := by
  intro i hi
  rw [List.length_take] at hi
  obtain ⟨a, rfl, hc⟩ := h i (by omega)
  refine ⟨a, rfl, ?_⟩
  rw [hc]
  simp [List.getD, show i < k by omega]
theorem take_snocN (l : List Nat) (k : Nat) (h : k < l.length) : l.take (k + 1) = l.take k ++ [l.getD k 0] := by
  rw [List.take_succ_eq_append_getElem h]
  simp [List.getD, List.getElem?_eq_getElem h]

set_option maxRecDepth 100000 in
set_option maxHeartbeats 4000000 in
theorem sketched_any (A : Option Addr) (c : Nat) (l : List Nat) (p seed : Nat) (w : World) (hl : l.length ≤ 200) (hA : SlU w A l) (h64 : ∀ i, l.getD i 0 < 18446744073709551616) (h4 : 4 ≤ p) (h16 : p ≤ 16) (hs : seed < 18446744073709551616) :
    Calls Try.prog 20 #[.int .i64 p, .int .u64 seed, .slice A l.length c] w fun e w' => e = .returned (.tuple #[.string (strOf (skF p seed (nwL p) l)), .bool true]) ∧ Below w.heap.size w w' := by
  have hnew := new_yes p w h4 h16
  have hsk := fun k => Sk.fold seed (l.take k) (Sk.nw h4 h16)
  have HA := Lib.hid (And.intro hA (And.intro h64 (And.intro hnew (And.intro hsk hs))))
  clear hA h64 hnew hsk hs
  go_enter Try.func20, Try.ntmps20
  go_wp2_with fail
  refine HA.out.2.2.1.mono ?_
  rintro e w1 ⟨rfl, hb⟩
  have H1 := Lib.hid hb
  clear hb
  go_wp2_with fail
  go_loopg [8, 9, 10] l.length (fun g s e i wr => ∃ k : Nat, k + g = l.length ∧ i = .int .i64 k ∧ s = .string (strOf (skF p seed (nwL p) (l.take k))) ∧ e = .int .i64 0 ∧ Below w.heap.size w wr)
  case atStart => exact ⟨0, by omega, rfl, rfl, rfl, H1.out⟩
  case round =>
    obtain ⟨k, hk, rfl, rfl, rfl, hbel⟩ := hrel
    have hsz := hbel.size
    by_cases hlt : k < l.length
    · obtain ⟨a, rfl, hc⟩ := HA.out.1 k hlt
      have hc2 : wr.cell? (a.add k) = some (.int .u64 (l.getD k 0 : Nat)) := (hbel.cell (World.block_lt_of_cell? w _ hc)).trans hc
      have hv64 := HA.out.2.1 k
      obtain ⟨v, hv⟩ : ∃ v, v = l.getD k 0 := ⟨_, rfl⟩
      rw [← hv] at hc2 hv64
      have hh := fun w => hash_any seed v w HA.out.2.2.2.2 hv64
      have ha := fun w => addL_any (hsN seed v) w (HA.out.2.2.2.1 k) (hsN_lt seed v)
      have hk2 : k < 200 := by omega
      have HV := Lib.hid (And.intro hv (And.intro hbel (And.intro hh ha)))
      clear hv hbel hc hh ha hsz
      go_wp2_with fail
      refine (HV.out.2.2.1 _).mono ?_
      rintro e w' ⟨rfl, rfl⟩
      go_wp2_with fail
      refine (HV.out.2.2.2 _).mono ?_
      rintro e w2 ⟨rfl, hb⟩
      have H2 := Lib.hid hb
      clear hb
      go_wp2_with fail
      go_roundg (gk - 1)
      case measure => omega
      case rel =>
        refine ⟨k + 1, by omega, by go_num, ?_, rfl, below_step HV.out.2.1 H2.out⟩
        rw [take_snocN l k hlt, skF_append, ← HV.out.1]
        rfl
    · have hkl : k = l.length := by omega
      have HB := Lib.hid (And.intro hbel hkl)
      clear hbel hkl hsz
      go_wp2_with fail
      go_ret2
      rw [HB.out.2, List.take_length]
      exact ⟨rfl, HB.out.1⟩
end Go.Proofs.Ytbkadfocjmpieaa
