/-
  SketchNone: the facts at the ends of the ranges.
-/
import Derived.Test.YtbkadfocjmpieaaGF
set_option linter.unusedVariables false
namespace Go.Proofs.Ytbkadfocjmpieaa
open Go.RowKit

def tNum : ByteArray := ⟨#[48, 49, 50, 51, 52, 53, 54, 55, 56, 57, 97, 98, 99, 100, 101, 102]⟩
def tFull : ByteArray := ⟨#[61, 61, 61, 61, 61, 61, 61, 61, 61, 61, 61, 61, 61, 61, 61, 61]⟩
def tOver : ByteArray := ⟨#[61, 61, 61, 62, 61, 61, 61, 61, 61, 61, 61, 61, 61, 61, 61, 61]⟩
def tOne : ByteArray := ⟨#[61, 0, 0, 0, 0, 0, 0, 0, 0, 0, 0, 0, 0, 0, 0, 0]⟩
theorem no_nil : ¬ exOk (⟨#[]⟩ : ByteArray) := fun h => absurd h.1.2.2 (by decide +kernel)
theorem no_num : ¬ exOk tNum := fun h => absurd (h.2 10 (by decide +kernel)) (by decide +kernel)
theorem no_over : ¬ exOk tOver := fun h => absurd (h.2 3 (by decide +kernel)) (by decide +kernel)
theorem yes_full : exOk tFull := by
  refine ⟨⟨by decide +kernel, by decide +kernel, by decide +kernel⟩, ?_⟩
  have e : tFull.size = 16 := by decide +kernel
  have h : ∀ i, i < 16 → (sN tFull).getD i 0 ≤ 65 - exP tFull := by decide +kernel
  intro i hi
  exact h i (by omega)
theorem full_est : esV tFull = 11819749998592 := by decide +kernel
theorem one_text : strOf (adL (nwL 4) (adAt 4 0) (rk 4 0)) = tOne := by decide +kernel
end Go.Proofs.Ytbkadfocjmpieaa
