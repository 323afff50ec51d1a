/-
  A hash, and a sketch of it: the laws' own waking.
-/
import Derived.Test.YtbkadfocjmpieaaSNew
import Derived.Test.YtbkadfocjmpieaaSEst
import Derived.Test.YtbkadfocjmpieaaSHash
set_option linter.unusedVariables false
namespace Go.Proofs.Ytbkadfocjmpieaa
open Go.RowKit

theorem below_step {a b c : World} (h : Below a.heap.size a b) (k : Below b.heap.size b c) : Below a.heap.size a c := h.trans (k.mono h.size)
theorem aw_text : strOf (adL (nwL 4) (adAt 4 17293822569102704641) (rk 4 17293822569102704641)) = (⟨#[0, 0, 0, 0, 0, 0, 0, 0, 0, 0, 0, 0, 0, 0, 0, 60]⟩ : ByteArray) := by decide +kernel
theorem aw_est : esV (⟨#[0, 0, 0, 0, 0, 0, 0, 0, 0, 0, 0, 0, 0, 0, 0, 60]⟩ : ByteArray) = 1 := by decide +kernel
theorem aw_hash : hsN 0 0 = 16294208416658607535 := by decide +kernel
theorem estL_any {p : Nat} {l : List Nat} (w : World) (h : Sk p l) : Calls Try.prog 8 #[.string (strOf l)] w fun e w' => e = .returned (.tuple #[.int .u64 (esV (strOf l) : Nat), .int .i64 0]) ∧ Below w.heap.size w w' := est_yes (strOf l) w h.ok
set_option maxRecDepth 100000 in
set_option maxHeartbeats 4000000 in
theorem awake_any (w : World) : Calls Try.prog 11 #[] w fun e w' => e = .returned (.bool true) ∧ Below w.heap.size w w' := by
  have h1 := new_yes 4 w (by decide) (by decide)
  have h2 := fun w => addL_any 17293822569102704641 w (Sk.nw (p := 4) (by decide) (by decide)) (by decide)
  have h3 := fun w => estL_any w ((Sk.nw (p := 4) (by decide) (by decide)).ad (adAt 4 17293822569102704641) 17293822569102704641)
  rw [aw_text, aw_est] at h3
  have h2' : ∀ w, Calls Try.prog 9 #[.string (strOf (nwL 4)), .int .u64 17293822569102704641] w fun e w' => e = .returned (.tuple #[.string (⟨#[0, 0, 0, 0, 0, 0, 0, 0, 0, 0, 0, 0, 0, 0, 0, 60]⟩ : ByteArray), .int .i64 0]) ∧ Below w.heap.size w w' := by
    intro w
    have := h2 w
    rw [aw_text] at this
    exact this
  have h4 := fun w => hash_any 0 0 w (by decide) (by decide)
  have HH := Lib.hid (And.intro h1 (And.intro h2' (And.intro h3 h4)))
  clear h1 h2 h2' h3 h4
  go_enter Try.func11, Try.ntmps11
  go_wp2_with fail
  refine HH.out.1.mono ?_
  rintro e w1 ⟨rfl, hb⟩
  have H1 := Lib.hid hb
  clear hb
  go_wp2_with fail
  refine (HH.out.2.1 _).mono ?_
  rintro e w2 ⟨rfl, hb⟩
  have H2 := Lib.hid (below_step H1.out hb)
  clear hb
  go_wp2_with fail
  refine (HH.out.2.2.1 _).mono ?_
  rintro e w3 ⟨rfl, hb⟩
  have H3 := Lib.hid (below_step H2.out hb)
  clear hb
  go_wp2_with fail
  refine (HH.out.2.2.2 _).mono ?_
  rintro e w4 ⟨rfl, rfl⟩
  rw [aw_hash]
  go_wp2_with fail
  go_ret
  exact ⟨rfl, H3.out⟩
end Go.Proofs.Ytbkadfocjmpieaa
