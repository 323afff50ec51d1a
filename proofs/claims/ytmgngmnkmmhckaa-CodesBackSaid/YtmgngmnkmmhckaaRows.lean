/-
  No cell of these rows narrows 'for every input' (looked for: loops, veiled, ifaces, maps, wideKeys, modest, calm, conditions, laid).
  DERIVED. THE GIVEN ROWS OF THIS SEAT. 10 by the template 'for every input the law returns true; each argument reads behind the call as it read before'; 0 by the template 'total and deterministic' (their statements: YtmgngmnkmmhckaaTotals.lean).
  GIVEN WITH THE SEED: the statements are not yours to turn. If you find one false, say at which input.
  Laid BY PROGRAM, IN A SANDBOX (cutbox-rows.mjs): the forced cells as the released guide's own fill.sh prints them over the translation 6f22f458e7e241be… (all of the seat's roots in one cut). By AI agents, Wed Nov 11 2026. No macro, syntax, notation, axiom, sorry.
-/
import Derived.Test.YtmgngmnkmmhckaaChecked
import GoSem.Claim
import GoSem.ClaimJoined
import GoSem.ClaimMapViews
import Derived.JoinedTies
import Derived.KernelRfl
namespace Go.Proofs.Ytmgngmnkmmhckaa
/- THE CELL 'sum', in the pinned program and in every row, IS THE sha256 OF THE DUMP (.gsa) THAT YtmgngmnkmmhckaaProg.lean LOADS. Nothing in Lean hashes anything: it is a label: what it is worth is what the hold of that sum in a sandbox is worth. -/
noncomputable def Try.pinned : Pinned := { name := "ytmgngmnkmmhckaa", sum := "6f22f458e7e241bea48410cc400a5fb5477a4e8c37acabcf42a69a16ffa222e6", checked := Try.checked }
namespace Rows
def none {H : Type} : Left H := { results := [], args := [] }

/-- 'wattlelaw01.BitioReads': WHATEVER THE INPUT: true; the input reads as it did. -/
def bitioReadsSpec : ChangeSpec := { name := "bitioReads", fn := fun _ => fun
  | [d1, d2] => { results := [.lit (.bool true)], args := [d1, d2] }
  | _ => none }
def bitioReadsRow : OpenClaim := { program := "ytmgngmnkmmhckaa", sum := "6f22f458e7e241bea48410cc400a5fb5477a4e8c37acabcf42a69a16ffa222e6", func := "wattle/wattlelaw01.BitioReads", spec := "bitioReads", unfollowed := true, recurses := true, apart := false }
def BitioReadsSaid : Prop := bitioReadsRow.holds Try.pinned (OpenSpec.ofChange bitioReadsSpec)

/-- ITS FALSE NEIGHBOUR: 'it returns false'. Refute it at one input. -/
def bitioReadsWrong : ChangeSpec := { name := "bitioReads", fn := fun _ => fun
  | [d1, d2] => { results := [.lit (.bool false)], args := [d1, d2] }
  | _ => none }
def BitioReadsWrongFalsely : Prop := bitioReadsRow.holds Try.pinned (OpenSpec.ofChange bitioReadsWrong)

/-- 'wattlelaw01.BitioBack': WHATEVER THE INPUT: true; the input reads as it did. -/
def bitioBackSpec : ChangeSpec := { name := "bitioBack", fn := fun _ => fun
  | [d] => { results := [.lit (.bool true)], args := [d] }
  | _ => none }
def bitioBackRow : OpenClaim := { program := "ytmgngmnkmmhckaa", sum := "6f22f458e7e241bea48410cc400a5fb5477a4e8c37acabcf42a69a16ffa222e6", func := "wattle/wattlelaw01.BitioBack", spec := "bitioBack", unfollowed := true, recurses := true, apart := false }
def BitioBackSaid : Prop := bitioBackRow.holds Try.pinned (OpenSpec.ofChange bitioBackSpec)

/-- ITS FALSE NEIGHBOUR: 'it returns false'. Refute it at one input. -/
def bitioBackWrong : ChangeSpec := { name := "bitioBack", fn := fun _ => fun
  | [d] => { results := [.lit (.bool false)], args := [d] }
  | _ => none }
def BitioBackWrongFalsely : Prop := bitioBackRow.holds Try.pinned (OpenSpec.ofChange bitioBackWrong)

/-- 'wattlelaw01.BitioWrites': WHATEVER THE INPUT: true; the input reads as it did. -/
def bitioWritesSpec : ChangeSpec := { name := "bitioWrites", fn := fun _ => fun
  | [d] => { results := [.lit (.bool true)], args := [d] }
  | _ => none }
def bitioWritesRow : OpenClaim := { program := "ytmgngmnkmmhckaa", sum := "6f22f458e7e241bea48410cc400a5fb5477a4e8c37acabcf42a69a16ffa222e6", func := "wattle/wattlelaw01.BitioWrites", spec := "bitioWrites", unfollowed := true, recurses := true, apart := false }
def BitioWritesSaid : Prop := bitioWritesRow.holds Try.pinned (OpenSpec.ofChange bitioWritesSpec)

/-- ITS FALSE NEIGHBOUR: 'it returns false'. Refute it at one input. -/
def bitioWritesWrong : ChangeSpec := { name := "bitioWrites", fn := fun _ => fun
  | [d] => { results := [.lit (.bool false)], args := [d] }
  | _ => none }
def BitioWritesWrongFalsely : Prop := bitioWritesRow.holds Try.pinned (OpenSpec.ofChange bitioWritesWrong)

/-- 'wattlelaw01.BitioPacks': WHATEVER THE INPUT: true; the input reads as it did. -/
def bitioPacksSpec : ChangeSpec := { name := "bitioPacks", fn := fun _ => fun
  | [d1, d2, d3] => { results := [.lit (.bool true)], args := [d1, d2, d3] }
  | _ => none }
def bitioPacksRow : OpenClaim := { program := "ytmgngmnkmmhckaa", sum := "6f22f458e7e241bea48410cc400a5fb5477a4e8c37acabcf42a69a16ffa222e6", func := "wattle/wattlelaw01.BitioPacks", spec := "bitioPacks", unfollowed := true, recurses := true, apart := false }
def BitioPacksSaid : Prop := bitioPacksRow.holds Try.pinned (OpenSpec.ofChange bitioPacksSpec)

/-- ITS FALSE NEIGHBOUR: 'it returns false'. Refute it at one input. -/
def bitioPacksWrong : ChangeSpec := { name := "bitioPacks", fn := fun _ => fun
  | [d1, d2, d3] => { results := [.lit (.bool false)], args := [d1, d2, d3] }
  | _ => none }
def BitioPacksWrongFalsely : Prop := bitioPacksRow.holds Try.pinned (OpenSpec.ofChange bitioPacksWrong)

/-- 'wattlelaw01.BitioNone': WHATEVER THE INPUT: true; the input reads as it did. -/
def bitioNoneSpec : ChangeSpec := { name := "bitioNone", fn := fun _ => fun
  | [] => { results := [.lit (.bool true)], args := [] }
  | _ => none }
def bitioNoneRow : OpenClaim := { program := "ytmgngmnkmmhckaa", sum := "6f22f458e7e241bea48410cc400a5fb5477a4e8c37acabcf42a69a16ffa222e6", func := "wattle/wattlelaw01.BitioNone", spec := "bitioNone", unfollowed := true, recurses := true, apart := false }
def BitioNoneSaid : Prop := bitioNoneRow.holds Try.pinned (OpenSpec.ofChange bitioNoneSpec)

/-- ITS FALSE NEIGHBOUR: 'it returns false'. Refute it at one input. -/
def bitioNoneWrong : ChangeSpec := { name := "bitioNone", fn := fun _ => fun
  | [] => { results := [.lit (.bool false)], args := [] }
  | _ => none }
def BitioNoneWrongFalsely : Prop := bitioNoneRow.holds Try.pinned (OpenSpec.ofChange bitioNoneWrong)

/-- 'wattlelaw02.CodesReads': WHATEVER THE INPUT: true; the input reads as it did. -/
def codesReadsSpec : ChangeSpec := { name := "codesReads", fn := fun _ => fun
  | [d1, d2] => { results := [.lit (.bool true)], args := [d1, d2] }
  | _ => none }
def codesReadsRow : OpenClaim := { program := "ytmgngmnkmmhckaa", sum := "6f22f458e7e241bea48410cc400a5fb5477a4e8c37acabcf42a69a16ffa222e6", func := "wattle/wattlelaw02.CodesReads", spec := "codesReads", unfollowed := true, recurses := true, apart := false }
def CodesReadsSaid : Prop := codesReadsRow.holds Try.pinned (OpenSpec.ofChange codesReadsSpec)

/-- ITS FALSE NEIGHBOUR: 'it returns false'. Refute it at one input. -/
def codesReadsWrong : ChangeSpec := { name := "codesReads", fn := fun _ => fun
  | [d1, d2] => { results := [.lit (.bool false)], args := [d1, d2] }
  | _ => none }
def CodesReadsWrongFalsely : Prop := codesReadsRow.holds Try.pinned (OpenSpec.ofChange codesReadsWrong)

/-- 'wattlelaw02.CodesBack': WHATEVER THE INPUT: true; the input reads as it did. -/
def codesBackSpec : ChangeSpec := { name := "codesBack", fn := fun _ => fun
  | [d] => { results := [.lit (.bool true)], args := [d] }
  | _ => none }
def codesBackRow : OpenClaim := { program := "ytmgngmnkmmhckaa", sum := "6f22f458e7e241bea48410cc400a5fb5477a4e8c37acabcf42a69a16ffa222e6", func := "wattle/wattlelaw02.CodesBack", spec := "codesBack", unfollowed := true, recurses := true, apart := false }
def CodesBackSaid : Prop := codesBackRow.holds Try.pinned (OpenSpec.ofChange codesBackSpec)

/-- ITS FALSE NEIGHBOUR: 'it returns false'. Refute it at one input. -/
def codesBackWrong : ChangeSpec := { name := "codesBack", fn := fun _ => fun
  | [d] => { results := [.lit (.bool false)], args := [d] }
  | _ => none }
def CodesBackWrongFalsely : Prop := codesBackRow.holds Try.pinned (OpenSpec.ofChange codesBackWrong)

/-- 'wattlelaw02.CodesNone': WHATEVER THE INPUT: true; the input reads as it did. -/
def codesNoneSpec : ChangeSpec := { name := "codesNone", fn := fun _ => fun
  | [] => { results := [.lit (.bool true)], args := [] }
  | _ => none }
def codesNoneRow : OpenClaim := { program := "ytmgngmnkmmhckaa", sum := "6f22f458e7e241bea48410cc400a5fb5477a4e8c37acabcf42a69a16ffa222e6", func := "wattle/wattlelaw02.CodesNone", spec := "codesNone", unfollowed := true, recurses := true, apart := false }
def CodesNoneSaid : Prop := codesNoneRow.holds Try.pinned (OpenSpec.ofChange codesNoneSpec)

/-- ITS FALSE NEIGHBOUR: 'it returns false'. Refute it at one input. -/
def codesNoneWrong : ChangeSpec := { name := "codesNone", fn := fun _ => fun
  | [] => { results := [.lit (.bool false)], args := [] }
  | _ => none }
def CodesNoneWrongFalsely : Prop := codesNoneRow.holds Try.pinned (OpenSpec.ofChange codesNoneWrong)

/-- 'wattlelaw02.CodesZigs': WHATEVER THE INPUT: true; the input reads as it did. -/
def codesZigsSpec : ChangeSpec := { name := "codesZigs", fn := fun _ => fun
  | [d1, d2, d3] => { results := [.lit (.bool true)], args := [d1, d2, d3] }
  | _ => none }
def codesZigsRow : OpenClaim := { program := "ytmgngmnkmmhckaa", sum := "6f22f458e7e241bea48410cc400a5fb5477a4e8c37acabcf42a69a16ffa222e6", func := "wattle/wattlelaw02.CodesZigs", spec := "codesZigs", unfollowed := true, recurses := true, apart := false }
def CodesZigsSaid : Prop := codesZigsRow.holds Try.pinned (OpenSpec.ofChange codesZigsSpec)

/-- ITS FALSE NEIGHBOUR: 'it returns false'. Refute it at one input. -/
def codesZigsWrong : ChangeSpec := { name := "codesZigs", fn := fun _ => fun
  | [d1, d2, d3] => { results := [.lit (.bool false)], args := [d1, d2, d3] }
  | _ => none }
def CodesZigsWrongFalsely : Prop := codesZigsRow.holds Try.pinned (OpenSpec.ofChange codesZigsWrong)

/-- 'wattlelaw02.CodesOnce': WHATEVER THE INPUT: true; the input reads as it did. -/
def codesOnceSpec : ChangeSpec := { name := "codesOnce", fn := fun _ => fun
  | [d1, d2] => { results := [.lit (.bool true)], args := [d1, d2] }
  | _ => none }
def codesOnceRow : OpenClaim := { program := "ytmgngmnkmmhckaa", sum := "6f22f458e7e241bea48410cc400a5fb5477a4e8c37acabcf42a69a16ffa222e6", func := "wattle/wattlelaw02.CodesOnce", spec := "codesOnce", unfollowed := true, recurses := true, apart := false }
def CodesOnceSaid : Prop := codesOnceRow.holds Try.pinned (OpenSpec.ofChange codesOnceSpec)

/-- ITS FALSE NEIGHBOUR: 'it returns false'. Refute it at one input. -/
def codesOnceWrong : ChangeSpec := { name := "codesOnce", fn := fun _ => fun
  | [d1, d2] => { results := [.lit (.bool false)], args := [d1, d2] }
  | _ => none }
def CodesOnceWrongFalsely : Prop := codesOnceRow.holds Try.pinned (OpenSpec.ofChange codesOnceWrong)

/- THE SECOND FORM. 'bulk': how many values and letters a reading holds, each counted each time it is reached (what is shared counts as often as it is met; a slice's spare places count too). A statement '..UptoSaid' is the law's where the arguments, and the package variables that the reading takes, are together of bulk at most 1048576: NARROWER than '..Said'. Prove '..Said' where nothing that the law and all that it calls make is longer than what came in: it says more and counts as full. Else prove '..UptoSaid'. A law counts once. -/
mutual
def uptoBulk {H : Type} : DataW H → Nat
  | .lit (.string bytes) => bytes.length + 1
  | .lit _ => 1
  | .nil => 1
  | .ptr d => uptoBulk d + 1
  | .slice elems spare => uptoBulkAll elems + uptoBulkAll spare + 1
  | .agg parts => uptoBulkAll parts + 1
  | .iface _ d => uptoBulk d + 1
  | .map entries => uptoBulkEntries entries + 1
  | .held _ => 1
def uptoBulkAll {H : Type} : List (DataW H) → Nat
  | [] => 0
  | d :: r => uptoBulk d + uptoBulkAll r
def uptoBulkEntries {H : Type} : List (Lit × DataW H) → Nat
  | [] => 0
  | x :: r => uptoBulkEntry x + uptoBulkEntries r
def uptoBulkEntry {H : Type} : Lit × DataW H → Nat
  | (.string bytes, d) => bytes.length + uptoBulk d + 1
  | (_, d) => uptoBulk d + 1
 end
def uptoSmall : (H : Type) → List (DataW H) → Bool := fun _ ds => decide (uptoBulkAll ds ≤ 1048576)
def OpenSpec.upto (s : _root_.Go.ChangeSpec) : _root_.Go.OpenSpec := { _root_.Go.OpenSpec.ofChange s with cond := some uptoSmall }

/-- 'wattlelaw01.BitioReads', WHERE WHAT IT READS IS OF BULK AT MOST 1048576: true; the input reads as it did. -/
def bitioReadsUptoRow : OpenClaim := { program := "ytmgngmnkmmhckaa", sum := "6f22f458e7e241bea48410cc400a5fb5477a4e8c37acabcf42a69a16ffa222e6", func := "wattle/wattlelaw01.BitioReads", spec := "bitioReads", unfollowed := true, recurses := true, apart := false, narrowed := true }
def BitioReadsUptoSaid : Prop := bitioReadsUptoRow.holds Try.pinned (OpenSpec.upto bitioReadsSpec)

/-- 'wattlelaw01.BitioBack', WHERE WHAT IT READS IS OF BULK AT MOST 1048576: true; the input reads as it did. -/
def bitioBackUptoRow : OpenClaim := { program := "ytmgngmnkmmhckaa", sum := "6f22f458e7e241bea48410cc400a5fb5477a4e8c37acabcf42a69a16ffa222e6", func := "wattle/wattlelaw01.BitioBack", spec := "bitioBack", unfollowed := true, recurses := true, apart := false, narrowed := true }
def BitioBackUptoSaid : Prop := bitioBackUptoRow.holds Try.pinned (OpenSpec.upto bitioBackSpec)

/-- 'wattlelaw01.BitioWrites', WHERE WHAT IT READS IS OF BULK AT MOST 1048576: true; the input reads as it did. -/
def bitioWritesUptoRow : OpenClaim := { program := "ytmgngmnkmmhckaa", sum := "6f22f458e7e241bea48410cc400a5fb5477a4e8c37acabcf42a69a16ffa222e6", func := "wattle/wattlelaw01.BitioWrites", spec := "bitioWrites", unfollowed := true, recurses := true, apart := false, narrowed := true }
def BitioWritesUptoSaid : Prop := bitioWritesUptoRow.holds Try.pinned (OpenSpec.upto bitioWritesSpec)

/-- 'wattlelaw01.BitioPacks', WHERE WHAT IT READS IS OF BULK AT MOST 1048576: true; the input reads as it did. -/
def bitioPacksUptoRow : OpenClaim := { program := "ytmgngmnkmmhckaa", sum := "6f22f458e7e241bea48410cc400a5fb5477a4e8c37acabcf42a69a16ffa222e6", func := "wattle/wattlelaw01.BitioPacks", spec := "bitioPacks", unfollowed := true, recurses := true, apart := false, narrowed := true }
def BitioPacksUptoSaid : Prop := bitioPacksUptoRow.holds Try.pinned (OpenSpec.upto bitioPacksSpec)

/-- 'wattlelaw01.BitioNone', WHERE WHAT IT READS IS OF BULK AT MOST 1048576: true; the input reads as it did. -/
def bitioNoneUptoRow : OpenClaim := { program := "ytmgngmnkmmhckaa", sum := "6f22f458e7e241bea48410cc400a5fb5477a4e8c37acabcf42a69a16ffa222e6", func := "wattle/wattlelaw01.BitioNone", spec := "bitioNone", unfollowed := true, recurses := true, apart := false, narrowed := true }
def BitioNoneUptoSaid : Prop := bitioNoneUptoRow.holds Try.pinned (OpenSpec.upto bitioNoneSpec)

/-- 'wattlelaw02.CodesReads', WHERE WHAT IT READS IS OF BULK AT MOST 1048576: true; the input reads as it did. -/
def codesReadsUptoRow : OpenClaim := { program := "ytmgngmnkmmhckaa", sum := "6f22f458e7e241bea48410cc400a5fb5477a4e8c37acabcf42a69a16ffa222e6", func := "wattle/wattlelaw02.CodesReads", spec := "codesReads", unfollowed := true, recurses := true, apart := false, narrowed := true }
def CodesReadsUptoSaid : Prop := codesReadsUptoRow.holds Try.pinned (OpenSpec.upto codesReadsSpec)

/-- 'wattlelaw02.CodesBack', WHERE WHAT IT READS IS OF BULK AT MOST 1048576: true; the input reads as it did. -/
def codesBackUptoRow : OpenClaim := { program := "ytmgngmnkmmhckaa", sum := "6f22f458e7e241bea48410cc400a5fb5477a4e8c37acabcf42a69a16ffa222e6", func := "wattle/wattlelaw02.CodesBack", spec := "codesBack", unfollowed := true, recurses := true, apart := false, narrowed := true }
def CodesBackUptoSaid : Prop := codesBackUptoRow.holds Try.pinned (OpenSpec.upto codesBackSpec)

/-- 'wattlelaw02.CodesNone', WHERE WHAT IT READS IS OF BULK AT MOST 1048576: true; the input reads as it did. -/
def codesNoneUptoRow : OpenClaim := { program := "ytmgngmnkmmhckaa", sum := "6f22f458e7e241bea48410cc400a5fb5477a4e8c37acabcf42a69a16ffa222e6", func := "wattle/wattlelaw02.CodesNone", spec := "codesNone", unfollowed := true, recurses := true, apart := false, narrowed := true }
def CodesNoneUptoSaid : Prop := codesNoneUptoRow.holds Try.pinned (OpenSpec.upto codesNoneSpec)

/-- 'wattlelaw02.CodesZigs', WHERE WHAT IT READS IS OF BULK AT MOST 1048576: true; the input reads as it did. -/
def codesZigsUptoRow : OpenClaim := { program := "ytmgngmnkmmhckaa", sum := "6f22f458e7e241bea48410cc400a5fb5477a4e8c37acabcf42a69a16ffa222e6", func := "wattle/wattlelaw02.CodesZigs", spec := "codesZigs", unfollowed := true, recurses := true, apart := false, narrowed := true }
def CodesZigsUptoSaid : Prop := codesZigsUptoRow.holds Try.pinned (OpenSpec.upto codesZigsSpec)

/-- 'wattlelaw02.CodesOnce', WHERE WHAT IT READS IS OF BULK AT MOST 1048576: true; the input reads as it did. -/
def codesOnceUptoRow : OpenClaim := { program := "ytmgngmnkmmhckaa", sum := "6f22f458e7e241bea48410cc400a5fb5477a4e8c37acabcf42a69a16ffa222e6", func := "wattle/wattlelaw02.CodesOnce", spec := "codesOnce", unfollowed := true, recurses := true, apart := false, narrowed := true }
def CodesOnceUptoSaid : Prop := codesOnceUptoRow.holds Try.pinned (OpenSpec.upto codesOnceSpec)

end Rows
end Go.Proofs.Ytmgngmnkmmhckaa
