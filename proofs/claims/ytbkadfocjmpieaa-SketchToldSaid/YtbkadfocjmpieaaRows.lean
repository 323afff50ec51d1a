/-
  No cell of these rows narrows 'for every input' (looked for: loops, veiled, ifaces, maps, wideKeys, modest, calm, conditions, laid).
  DERIVED. THE GIVEN ROWS OF THIS SEAT. 4 by the template 'for every input the law returns true; each argument reads behind the call as it read before'; 0 by the template 'total and deterministic' (their statements: YtbkadfocjmpieaaTotals.lean).
  GIVEN WITH THE SEED: the statements are not yours to turn. If you find one false, say at which input.
  Laid BY PROGRAM, IN A SANDBOX (cutbox-rows.mjs): the forced cells as the released guide's own fill.sh prints them over the translation 312cec9d61bc55cd… (all of the seat's roots in one cut). By AI agents, Wed Nov 11 2026. No macro, syntax, notation, axiom, sorry.
-/
import Derived.Test.YtbkadfocjmpieaaChecked
import GoSem.Claim
import GoSem.ClaimJoined
import GoSem.ClaimMapViews
import Derived.JoinedTies
import Derived.KernelRfl
namespace Go.Proofs.Ytbkadfocjmpieaa
/- THE CELL 'sum', in the pinned program and in every row, IS THE sha256 OF THE DUMP (.gsa) THAT YtbkadfocjmpieaaProg.lean LOADS. Nothing in Lean hashes anything: it is a label: what it is worth is what the hold of that sum in a sandbox is worth. -/
noncomputable def Try.pinned : Pinned := { name := "ytbkadfocjmpieaa", sum := "312cec9d61bc55cd53f5aff867ded7c4e5b13c594f3a74102b8ce9f46d61468d", checked := Try.checked }
namespace Rows
def none {H : Type} : Left H := { results := [], args := [] }

/-- 'wattlelaw27.SketchGrows': WHATEVER THE INPUT: true; the input reads as it did. -/
def sketchGrowsSpec : ChangeSpec := { name := "sketchGrows", fn := fun _ => fun
  | [d1, d2, d3] => { results := [.lit (.bool true)], args := [d1, d2, d3] }
  | _ => none }
def sketchGrowsRow : OpenClaim := { program := "ytbkadfocjmpieaa", sum := "312cec9d61bc55cd53f5aff867ded7c4e5b13c594f3a74102b8ce9f46d61468d", func := "wattle/wattlelaw27.SketchGrows", spec := "sketchGrows", inPlace := ["internal/abi.NoEscape", "internal/bytealg.MakeNoZero"], named := ["math/bits.divideError", "math/bits.overflowError"], apart := false }
def SketchGrowsSaid : Prop := sketchGrowsRow.holds Try.pinned (OpenSpec.ofChange sketchGrowsSpec)

/-- ITS FALSE NEIGHBOUR: 'it returns false'. Refute it at one input. -/
def sketchGrowsWrong : ChangeSpec := { name := "sketchGrows", fn := fun _ => fun
  | [d1, d2, d3] => { results := [.lit (.bool false)], args := [d1, d2, d3] }
  | _ => none }
def SketchGrowsWrongFalsely : Prop := sketchGrowsRow.holds Try.pinned (OpenSpec.ofChange sketchGrowsWrong)

/-- 'wattlelaw27.SketchTold': WHATEVER THE INPUT: true; the input reads as it did. -/
def sketchToldSpec : ChangeSpec := { name := "sketchTold", fn := fun _ => fun
  | [d1, d2, d3] => { results := [.lit (.bool true)], args := [d1, d2, d3] }
  | _ => none }
def sketchToldRow : OpenClaim := { program := "ytbkadfocjmpieaa", sum := "312cec9d61bc55cd53f5aff867ded7c4e5b13c594f3a74102b8ce9f46d61468d", func := "wattle/wattlelaw27.SketchTold", spec := "sketchTold", inPlace := ["internal/abi.NoEscape", "internal/bytealg.MakeNoZero"], unfollowed := true, recurses := true, named := ["math/bits.divideError", "math/bits.overflowError"], apart := false }
def SketchToldSaid : Prop := sketchToldRow.holds Try.pinned (OpenSpec.ofChange sketchToldSpec)

/-- ITS FALSE NEIGHBOUR: 'it returns false'. Refute it at one input. -/
def sketchToldWrong : ChangeSpec := { name := "sketchTold", fn := fun _ => fun
  | [d1, d2, d3] => { results := [.lit (.bool false)], args := [d1, d2, d3] }
  | _ => none }
def SketchToldWrongFalsely : Prop := sketchToldRow.holds Try.pinned (OpenSpec.ofChange sketchToldWrong)

/-- 'wattlelaw27.SketchAny': WHATEVER THE INPUT: true; the input reads as it did. -/
def sketchAnySpec : ChangeSpec := { name := "sketchAny", fn := fun _ => fun
  | [d1, d2, d3] => { results := [.lit (.bool true)], args := [d1, d2, d3] }
  | _ => none }
def sketchAnyRow : OpenClaim := { program := "ytbkadfocjmpieaa", sum := "312cec9d61bc55cd53f5aff867ded7c4e5b13c594f3a74102b8ce9f46d61468d", func := "wattle/wattlelaw27.SketchAny", spec := "sketchAny", inPlace := ["internal/abi.NoEscape", "internal/bytealg.MakeNoZero"], unfollowed := true, recurses := true, named := ["math/bits.divideError", "math/bits.overflowError"], apart := false }
def SketchAnySaid : Prop := sketchAnyRow.holds Try.pinned (OpenSpec.ofChange sketchAnySpec)

/-- ITS FALSE NEIGHBOUR: 'it returns false'. Refute it at one input. -/
def sketchAnyWrong : ChangeSpec := { name := "sketchAny", fn := fun _ => fun
  | [d1, d2, d3] => { results := [.lit (.bool false)], args := [d1, d2, d3] }
  | _ => none }
def SketchAnyWrongFalsely : Prop := sketchAnyRow.holds Try.pinned (OpenSpec.ofChange sketchAnyWrong)

/-- 'wattlelaw27.SketchNone': WHATEVER THE INPUT: true; the input reads as it did. -/
def sketchNoneSpec : ChangeSpec := { name := "sketchNone", fn := fun _ => fun
  | [] => { results := [.lit (.bool true)], args := [] }
  | _ => none }
def sketchNoneRow : OpenClaim := { program := "ytbkadfocjmpieaa", sum := "312cec9d61bc55cd53f5aff867ded7c4e5b13c594f3a74102b8ce9f46d61468d", func := "wattle/wattlelaw27.SketchNone", spec := "sketchNone", inPlace := ["internal/abi.NoEscape", "internal/bytealg.MakeNoZero"], unfollowed := true, recurses := true, named := ["math/bits.divideError", "math/bits.overflowError"], apart := false }
def SketchNoneSaid : Prop := sketchNoneRow.holds Try.pinned (OpenSpec.ofChange sketchNoneSpec)

/-- ITS FALSE NEIGHBOUR: 'it returns false'. Refute it at one input. -/
def sketchNoneWrong : ChangeSpec := { name := "sketchNone", fn := fun _ => fun
  | [] => { results := [.lit (.bool false)], args := [] }
  | _ => none }
def SketchNoneWrongFalsely : Prop := sketchNoneRow.holds Try.pinned (OpenSpec.ofChange sketchNoneWrong)

/- THE SECOND FORM. 'bulk': how many values and letters a reading holds, each counted each time it is reached (what is shared counts as often as it is met; a slice's spare places count too). A statement '..UptoSaid' is the law's where the arguments, and the package variables that the reading takes, are together of bulk at most 1048576: NARROWER than '..Said'. Prove '..Said' where nothing that the law and all that it calls make is longer than what came in: it says more and counts as full. Else prove '..UptoSaid'. A law counts once. -/
mutual
def uptoBulk {H : Type} : DataW H → Nat
  | .lit (.string bytes) => bytes.length + 1
  | .lit _ => 1
  | .nil => 1
  | .ptr d => uptoBulk d + 1
  | .slice elems spare => uptoBulkAll elems + uptoBulkAll spare + 1
  | .agg parts => uptoBulkAll parts + 1
  | .iface _ d => uptoBulk d + 1
  | .map entries => uptoBulkEntries entries + 1
  | .held _ => 1
def uptoBulkAll {H : Type} : List (DataW H) → Nat
  | [] => 0
  | d :: r => uptoBulk d + uptoBulkAll r
def uptoBulkEntries {H : Type} : List (Lit × DataW H) → Nat
  | [] => 0
  | x :: r => uptoBulkEntry x + uptoBulkEntries r
def uptoBulkEntry {H : Type} : Lit × DataW H → Nat
  | (.string bytes, d) => bytes.length + uptoBulk d + 1
  | (_, d) => uptoBulk d + 1
 end
def uptoSmall : (H : Type) → List (DataW H) → Bool := fun _ ds => decide (uptoBulkAll ds ≤ 1048576)
def OpenSpec.upto (s : _root_.Go.ChangeSpec) : _root_.Go.OpenSpec := { _root_.Go.OpenSpec.ofChange s with cond := some uptoSmall }

/-- 'wattlelaw27.SketchGrows', WHERE WHAT IT READS IS OF BULK AT MOST 1048576: true; the input reads as it did. -/
def sketchGrowsUptoRow : OpenClaim := { program := "ytbkadfocjmpieaa", sum := "312cec9d61bc55cd53f5aff867ded7c4e5b13c594f3a74102b8ce9f46d61468d", func := "wattle/wattlelaw27.SketchGrows", spec := "sketchGrows", inPlace := ["internal/abi.NoEscape", "internal/bytealg.MakeNoZero"], named := ["math/bits.divideError", "math/bits.overflowError"], apart := false, narrowed := true }
def SketchGrowsUptoSaid : Prop := sketchGrowsUptoRow.holds Try.pinned (OpenSpec.upto sketchGrowsSpec)

/-- 'wattlelaw27.SketchTold', WHERE WHAT IT READS IS OF BULK AT MOST 1048576: true; the input reads as it did. -/
def sketchToldUptoRow : OpenClaim := { program := "ytbkadfocjmpieaa", sum := "312cec9d61bc55cd53f5aff867ded7c4e5b13c594f3a74102b8ce9f46d61468d", func := "wattle/wattlelaw27.SketchTold", spec := "sketchTold", inPlace := ["internal/abi.NoEscape", "internal/bytealg.MakeNoZero"], unfollowed := true, recurses := true, named := ["math/bits.divideError", "math/bits.overflowError"], apart := false, narrowed := true }
def SketchToldUptoSaid : Prop := sketchToldUptoRow.holds Try.pinned (OpenSpec.upto sketchToldSpec)

/-- 'wattlelaw27.SketchAny', WHERE WHAT IT READS IS OF BULK AT MOST 1048576: true; the input reads as it did. -/
def sketchAnyUptoRow : OpenClaim := { program := "ytbkadfocjmpieaa", sum := "312cec9d61bc55cd53f5aff867ded7c4e5b13c594f3a74102b8ce9f46d61468d", func := "wattle/wattlelaw27.SketchAny", spec := "sketchAny", inPlace := ["internal/abi.NoEscape", "internal/bytealg.MakeNoZero"], unfollowed := true, recurses := true, named := ["math/bits.divideError", "math/bits.overflowError"], apart := false, narrowed := true }
def SketchAnyUptoSaid : Prop := sketchAnyUptoRow.holds Try.pinned (OpenSpec.upto sketchAnySpec)

/-- 'wattlelaw27.SketchNone', WHERE WHAT IT READS IS OF BULK AT MOST 1048576: true; the input reads as it did. -/
def sketchNoneUptoRow : OpenClaim := { program := "ytbkadfocjmpieaa", sum := "312cec9d61bc55cd53f5aff867ded7c4e5b13c594f3a74102b8ce9f46d61468d", func := "wattle/wattlelaw27.SketchNone", spec := "sketchNone", inPlace := ["internal/abi.NoEscape", "internal/bytealg.MakeNoZero"], unfollowed := true, recurses := true, named := ["math/bits.divideError", "math/bits.overflowError"], apart := false, narrowed := true }
def SketchNoneUptoSaid : Prop := sketchNoneUptoRow.holds Try.pinned (OpenSpec.upto sketchNoneSpec)

end Rows
end Go.Proofs.Ytbkadfocjmpieaa
