/-
  A sketch hangs on what it was made of: the plain law.
-/
import Derived.Test.YtbkadfocjmpieaaSUnion2
import Derived.Test.YtbkadfocjmpieaaSHashI
import Derived.Test.YtbkadfocjmpieaaSNew
set_option linter.unusedVariables false
namespace Go.Proofs.Ytbkadfocjmpieaa
open Go.RowKit

/-- a sketch with numbers more -/
def skF (p seed : Nat) : List Nat → List Nat → List Nat
  | l, [] => l
  | l, x :: xs => skF p seed (adL l (adAt p (hsN seed x)) (rk p (hsN seed x))) xs
/-- what a register gets -/
def rg (p seed : Nat) : List Nat → Nat → Nat
  | [], _ => 0
  | x :: xs, i => max (if adAt p (hsN seed x) = i then rk p (hsN seed x) else 0) (rg p seed xs i)
theorem length_adL (l : List Nat) (i r : Nat) : (adL l i r).length = l.length := by unfold adL; simp
theorem length_skF (p seed : Nat) : ∀ (xs l : List Nat), (skF p seed l xs).length = l.length
  | [], l => rfl
  | x :: xs, l => by unfold skF; rw [length_skF p seed xs, length_adL]
theorem Sk.fold {p : Nat} (seed : Nat) : ∀ (xs : List Nat) {l : List Nat}, Sk p l → Sk p (skF p seed l xs)
  | [], l, h => h
  | x :: xs, l, h => by unfold skF; exact Sk.fold seed xs (h.ad _ _)
theorem skF_append (p seed : Nat) : ∀ (xs ys l : List Nat), skF p seed l (xs ++ ys) = skF p seed (skF p seed l xs) ys
  | [], ys, l => rfl
  | x :: xs, ys, l => by simp only [List.cons_append, skF]; exact skF_append p seed xs ys _
theorem rg_append (p seed : Nat) (i : Nat) : ∀ (xs ys : List Nat), rg p seed (xs ++ ys) i = max (rg p seed xs i) (rg p seed ys i)
  | [], ys => by simp [rg]
  | x :: xs, ys => by simp only [List.cons_append, rg]; rw [rg_append p seed i xs ys, Nat.max_assoc]
theorem getD_skF (p seed : Nat) (i : Nat) : ∀ (xs l : List Nat), i < l.length → (skF p seed l xs).getD i 0 = max (l.getD i 0) (rg p seed xs i)
  | [], l, _ => by simp [skF, rg]
  | x :: xs, l, h => by
    simp only [skF, rg]
    rw [getD_skF p seed i xs _ (by rw [length_adL]; exact h), getD_adL, ← Nat.max_assoc]
    by_cases e : adAt p (hsN seed x) = i
    · subst e
      rw [if_pos ⟨rfl, h⟩, if_pos rfl]
    · rw [if_neg (fun k => e k.1.symm), if_neg e]
      simp
/-- backwards, each twice -/
def bk : List Nat → List Nat
  | [] => []
  | x :: xs => bk xs ++ [x, x]
theorem rg_bk (p seed : Nat) (i : Nat) : ∀ xs : List Nat, rg p seed (bk xs) i = rg p seed xs i
  | [] => rfl
  | x :: xs => by
    simp only [bk]
    rw [rg_append, rg_bk p seed i xs]
    simp only [rg]
    omega
theorem skF_bk (p seed : Nat) (l xs : List Nat) : skF p seed l (bk xs) = skF p seed l xs := by
  refine ext_getDN (by rw [length_skF, length_skF]) fun i hi => ?_
  rw [length_skF] at hi
  rw [getD_skF _ _ _ _ _ hi, getD_skF _ _ _ _ _ hi, rg_bk]
theorem length_bk : ∀ xs : List Nat, (bk xs).length = 2 * xs.length
  | [] => rfl
  | x :: xs => by simp only [bk, List.length_append, length_bk xs, List.length_cons, List.length_nil]; omega
theorem unL_comm {l m : List Nat} (h : l.length = m.length) : unL l m = unL m l := by
  refine ext_getDN (by rw [length_unL h, length_unL h.symm, h]) fun i _ => ?_
  rw [getD_unL h, getD_unL h.symm, Nat.max_comm]
theorem unL_self (l : List Nat) : unL l l = l := by
  refine ext_getDN (length_unL rfl) fun i _ => ?_
  rw [getD_unL rfl, Nat.max_self]
theorem unL_left {l m : List Nat} (h : l.length = m.length) : unL (unL l m) l = unL l m := by
  have e := length_unL h
  refine ext_getDN (by rw [length_unL e, e]) fun i _ => ?_
  rw [getD_unL e, getD_unL h]; omega
theorem Sk.un {p : Nat} {l m : List Nat} (h : Sk p l) (k : Sk p m) : Sk p (unL l m) := ⟨h.h4, h.h16, by rw [length_unL (by rw [h.len, k.len]), h.len], fun i => by
  rw [getD_unL (by rw [h.len, k.len])]
  have := h.le i
  have := k.le i
  omega⟩
/-- the sketch of two lots -/
theorem skF_un (p seed : Nat) (xs ys : List Nat) : skF p seed (skF p seed (nwL p) xs) ys = unL (skF p seed (nwL p) xs) (skF p seed (nwL p) ys) := by
  have hl : (skF p seed (nwL p) xs).length = (skF p seed (nwL p) ys).length := by rw [length_skF, length_skF]
  refine ext_getDN (by rw [length_skF, length_unL hl]) fun i hi => ?_
  rw [length_skF] at hi
  have hi2 : i < (nwL p).length := by rw [length_skF] at hi; exact hi
  rw [getD_skF _ _ _ _ _ hi, getD_unL hl, getD_skF _ _ _ ys _ hi2]
  have : (nwL p).getD i 0 = 0 := by
    unfold nwL
    rw [List.getD, List.getElem?_replicate]
    split <;> rfl
  rw [this]; omega
theorem unionL_any {p : Nat} {l m : List Nat} (w : World) (h : Sk p l) (k : Sk p m) : Calls Try.prog 14 #[.string (strOf l), .string (strOf m)] w fun e w' => e = .returned (.tuple #[.string (strOf (unL l m)), .int .i64 0]) ∧ Below w.heap.size w w' := by
  have := union_yes (strOf l) (strOf m) w h.ok k.ok (by rw [h.exP, k.exP])
  rw [h.sN, k.sN] at this
  exact this
end Go.Proofs.Ytbkadfocjmpieaa
