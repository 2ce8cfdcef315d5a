/-
  No cell of these rows narrows 'for every input' (looked for: loops, veiled, ifaces, maps, wideKeys, modest, calm, conditions, laid).
  DERIVED. THE GIVEN ROWS OF THIS SEAT. 8 by the template 'for every input the law returns true; each argument reads behind the call as it read before'; 0 by the template 'total and deterministic' (their statements: YtfjkghbnlmhcnaaTotals.lean).
  GIVEN WITH THE SEED: the statements are not yours to turn. If you find one false, say at which input.
  Laid BY PROGRAM, IN A SANDBOX (cutbox-rows.mjs): the forced cells as the released guide's own fill.sh prints them over the translation 65a74232e8a6a7e1… (all of the seat's roots in one cut). By AI agents, Wed Nov 11 2026. No macro, syntax, notation, axiom, sorry.
-/
import Derived.Test.YtfjkghbnlmhcnaaChecked
import GoSem.Claim
import GoSem.ClaimJoined
import GoSem.ClaimMapViews
import Derived.JoinedTies
import Derived.KernelRfl
namespace Go.Proofs.Ytfjkghbnlmhcnaa
/- THE CELL 'sum', in the pinned program and in every row, IS THE sha256 OF THE DUMP (.gsa) THAT YtfjkghbnlmhcnaaProg.lean LOADS. Nothing in Lean hashes anything: it is a label: what it is worth is what the hold of that sum in a sandbox is worth. -/
noncomputable def Try.pinned : Pinned := { name := "ytfjkghbnlmhcnaa", sum := "65a74232e8a6a7e1e688aad59d843238c02a2f2c74c93f94dc4fdddc2e9f3015", checked := Try.checked }
namespace Rows
def none {H : Type} : Left H := { results := [], args := [] }

/-- 'viewportlaw09.LinesAnew': WHATEVER THE INPUT: true; the input reads as it did. -/
def linesAnewSpec : ChangeSpec := { name := "linesAnew", fn := fun _ => fun
  | [d1, d2] => { results := [.lit (.bool true)], args := [d1, d2] }
  | _ => none }
def linesAnewRow : OpenClaim := { program := "ytfjkghbnlmhcnaa", sum := "65a74232e8a6a7e1e688aad59d843238c02a2f2c74c93f94dc4fdddc2e9f3015", func := "viewport/viewportlaw09.LinesAnew", spec := "linesAnew", inPlace := ["slices.overlaps[int]"], apart := false }
def LinesAnewSaid : Prop := linesAnewRow.holds Try.pinned (OpenSpec.ofChange linesAnewSpec)

/-- ITS FALSE NEIGHBOUR: 'it returns false'. Refute it at one input. -/
def linesAnewWrong : ChangeSpec := { name := "linesAnew", fn := fun _ => fun
  | [d1, d2] => { results := [.lit (.bool false)], args := [d1, d2] }
  | _ => none }
def LinesAnewWrongFalsely : Prop := linesAnewRow.holds Try.pinned (OpenSpec.ofChange linesAnewWrong)

/-- 'viewportlaw09.LinesCut': WHATEVER THE INPUT: true; the input reads as it did. -/
def linesCutSpec : ChangeSpec := { name := "linesCut", fn := fun _ => fun
  | [d] => { results := [.lit (.bool true)], args := [d] }
  | _ => none }
def linesCutRow : OpenClaim := { program := "ytfjkghbnlmhcnaa", sum := "65a74232e8a6a7e1e688aad59d843238c02a2f2c74c93f94dc4fdddc2e9f3015", func := "viewport/viewportlaw09.LinesCut", spec := "linesCut", inPlace := ["slices.overlaps[int]"], apart := false }
def LinesCutSaid : Prop := linesCutRow.holds Try.pinned (OpenSpec.ofChange linesCutSpec)

/-- ITS FALSE NEIGHBOUR: 'it returns false'. Refute it at one input. -/
def linesCutWrong : ChangeSpec := { name := "linesCut", fn := fun _ => fun
  | [d] => { results := [.lit (.bool false)], args := [d] }
  | _ => none }
def LinesCutWrongFalsely : Prop := linesCutRow.holds Try.pinned (OpenSpec.ofChange linesCutWrong)

/-- 'viewportlaw09.LinesBack': WHATEVER THE INPUT: true; the input reads as it did. -/
def linesBackSpec : ChangeSpec := { name := "linesBack", fn := fun _ => fun
  | [d] => { results := [.lit (.bool true)], args := [d] }
  | _ => none }
def linesBackRow : OpenClaim := { program := "ytfjkghbnlmhcnaa", sum := "65a74232e8a6a7e1e688aad59d843238c02a2f2c74c93f94dc4fdddc2e9f3015", func := "viewport/viewportlaw09.LinesBack", spec := "linesBack", inPlace := ["slices.overlaps[int]"], apart := false }
def LinesBackSaid : Prop := linesBackRow.holds Try.pinned (OpenSpec.ofChange linesBackSpec)

/-- ITS FALSE NEIGHBOUR: 'it returns false'. Refute it at one input. -/
def linesBackWrong : ChangeSpec := { name := "linesBack", fn := fun _ => fun
  | [d] => { results := [.lit (.bool false)], args := [d] }
  | _ => none }
def LinesBackWrongFalsely : Prop := linesBackRow.holds Try.pinned (OpenSpec.ofChange linesBackWrong)

/-- 'viewportlaw09.LinesNames': WHATEVER THE INPUT: true; the input reads as it did. -/
def linesNamesSpec : ChangeSpec := { name := "linesNames", fn := fun _ => fun
  | [] => { results := [.lit (.bool true)], args := [] }
  | _ => none }
def linesNamesRow : OpenClaim := { program := "ytfjkghbnlmhcnaa", sum := "65a74232e8a6a7e1e688aad59d843238c02a2f2c74c93f94dc4fdddc2e9f3015", func := "viewport/viewportlaw09.LinesNames", spec := "linesNames", inPlace := ["slices.overlaps[int]"], apart := false }
def LinesNamesSaid : Prop := linesNamesRow.holds Try.pinned (OpenSpec.ofChange linesNamesSpec)

/-- ITS FALSE NEIGHBOUR: 'it returns false'. Refute it at one input. -/
def linesNamesWrong : ChangeSpec := { name := "linesNames", fn := fun _ => fun
  | [] => { results := [.lit (.bool false)], args := [] }
  | _ => none }
def LinesNamesWrongFalsely : Prop := linesNamesRow.holds Try.pinned (OpenSpec.ofChange linesNamesWrong)

/-- 'viewportlaw09.LinesScript': WHATEVER THE INPUT: true; the input reads as it did. -/
def linesScriptSpec : ChangeSpec := { name := "linesScript", fn := fun _ => fun
  | [d1, d2, d3, d4, d5] => { results := [.lit (.bool true)], args := [d1, d2, d3, d4, d5] }
  | _ => none }
def linesScriptRow : OpenClaim := { program := "ytfjkghbnlmhcnaa", sum := "65a74232e8a6a7e1e688aad59d843238c02a2f2c74c93f94dc4fdddc2e9f3015", func := "viewport/viewportlaw09.LinesScript", spec := "linesScript", inPlace := ["slices.overlaps[int]"], apart := false }
def LinesScriptSaid : Prop := linesScriptRow.holds Try.pinned (OpenSpec.ofChange linesScriptSpec)

/-- ITS FALSE NEIGHBOUR: 'it returns false'. Refute it at one input. -/
def linesScriptWrong : ChangeSpec := { name := "linesScript", fn := fun _ => fun
  | [d1, d2, d3, d4, d5] => { results := [.lit (.bool false)], args := [d1, d2, d3, d4, d5] }
  | _ => none }
def LinesScriptWrongFalsely : Prop := linesScriptRow.holds Try.pinned (OpenSpec.ofChange linesScriptWrong)

/-- 'viewportlaw09.LinesNil': WHATEVER THE INPUT: true; the input reads as it did. -/
def linesNilSpec : ChangeSpec := { name := "linesNil", fn := fun _ => fun
  | [d1, d2, d3] => { results := [.lit (.bool true)], args := [d1, d2, d3] }
  | _ => none }
def linesNilRow : OpenClaim := { program := "ytfjkghbnlmhcnaa", sum := "65a74232e8a6a7e1e688aad59d843238c02a2f2c74c93f94dc4fdddc2e9f3015", func := "viewport/viewportlaw09.LinesNil", spec := "linesNil", inPlace := ["slices.overlaps[int]"], apart := false }
def LinesNilSaid : Prop := linesNilRow.holds Try.pinned (OpenSpec.ofChange linesNilSpec)

/-- ITS FALSE NEIGHBOUR: 'it returns false'. Refute it at one input. -/
def linesNilWrong : ChangeSpec := { name := "linesNil", fn := fun _ => fun
  | [d1, d2, d3] => { results := [.lit (.bool false)], args := [d1, d2, d3] }
  | _ => none }
def LinesNilWrongFalsely : Prop := linesNilRow.holds Try.pinned (OpenSpec.ofChange linesNilWrong)

/-- 'viewportlaw10.ShiftMerged': WHATEVER THE INPUT: true; the input reads as it did. -/
def shiftMergedSpec : ChangeSpec := { name := "shiftMerged", fn := fun _ => fun
  | [d1, d2] => { results := [.lit (.bool true)], args := [d1, d2] }
  | _ => none }
def shiftMergedRow : OpenClaim := { program := "ytfjkghbnlmhcnaa", sum := "65a74232e8a6a7e1e688aad59d843238c02a2f2c74c93f94dc4fdddc2e9f3015", func := "viewport/viewportlaw10.ShiftMerged", spec := "shiftMerged", unfollowed := true, recurses := true, apart := false }
def ShiftMergedSaid : Prop := shiftMergedRow.holds Try.pinned (OpenSpec.ofChange shiftMergedSpec)

/-- ITS FALSE NEIGHBOUR: 'it returns false'. Refute it at one input. -/
def shiftMergedWrong : ChangeSpec := { name := "shiftMerged", fn := fun _ => fun
  | [d1, d2] => { results := [.lit (.bool false)], args := [d1, d2] }
  | _ => none }
def ShiftMergedWrongFalsely : Prop := shiftMergedRow.holds Try.pinned (OpenSpec.ofChange shiftMergedWrong)

/-- 'viewportlaw10.ShiftNames': WHATEVER THE INPUT: true; the input reads as it did. -/
def shiftNamesSpec : ChangeSpec := { name := "shiftNames", fn := fun _ => fun
  | [] => { results := [.lit (.bool true)], args := [] }
  | _ => none }
def shiftNamesRow : OpenClaim := { program := "ytfjkghbnlmhcnaa", sum := "65a74232e8a6a7e1e688aad59d843238c02a2f2c74c93f94dc4fdddc2e9f3015", func := "viewport/viewportlaw10.ShiftNames", spec := "shiftNames", unfollowed := true, recurses := true, apart := false }
def ShiftNamesSaid : Prop := shiftNamesRow.holds Try.pinned (OpenSpec.ofChange shiftNamesSpec)

/-- ITS FALSE NEIGHBOUR: 'it returns false'. Refute it at one input. -/
def shiftNamesWrong : ChangeSpec := { name := "shiftNames", fn := fun _ => fun
  | [] => { results := [.lit (.bool false)], args := [] }
  | _ => none }
def ShiftNamesWrongFalsely : Prop := shiftNamesRow.holds Try.pinned (OpenSpec.ofChange shiftNamesWrong)

/- THE SECOND FORM. 'bulk': how many values and letters a reading holds, each counted each time it is reached (what is shared counts as often as it is met; a slice's spare places count too). A statement '..UptoSaid' is the law's where the arguments, and the package variables that the reading takes, are together of bulk at most 1048576: NARROWER than '..Said'. Prove '..Said' where nothing that the law and all that it calls make is longer than what came in: it says more and counts as full. Else prove '..UptoSaid'. A law counts once. -/
mutual
def uptoBulk {H : Type} : DataW H → Nat
  | .lit (.string bytes) => bytes.length + 1
  | .lit _ => 1
  | .nil => 1
  | .ptr d => uptoBulk d + 1
  | .slice elems spare => uptoBulkAll elems + uptoBulkAll spare + 1
  | .agg parts => uptoBulkAll parts + 1
  | .iface _ d => uptoBulk d + 1
  | .map entries => uptoBulkEntries entries + 1
  | .held _ => 1
def uptoBulkAll {H : Type} : List (DataW H) → Nat
  | [] => 0
  | d :: r => uptoBulk d + uptoBulkAll r
def uptoBulkEntries {H : Type} : List (Lit × DataW H) → Nat
  | [] => 0
  | x :: r => uptoBulkEntry x + uptoBulkEntries r
def uptoBulkEntry {H : Type} : Lit × DataW H → Nat
  | (.string bytes, d) => bytes.length + uptoBulk d + 1
  | (_, d) => uptoBulk d + 1
 end
def uptoSmall : (H : Type) → List (DataW H) → Bool := fun _ ds => decide (uptoBulkAll ds ≤ 1048576)
def OpenSpec.upto (s : _root_.Go.ChangeSpec) : _root_.Go.OpenSpec := { _root_.Go.OpenSpec.ofChange s with cond := some uptoSmall }

/-- 'viewportlaw09.LinesAnew', WHERE WHAT IT READS IS OF BULK AT MOST 1048576: true; the input reads as it did. -/
def linesAnewUptoRow : OpenClaim := { program := "ytfjkghbnlmhcnaa", sum := "65a74232e8a6a7e1e688aad59d843238c02a2f2c74c93f94dc4fdddc2e9f3015", func := "viewport/viewportlaw09.LinesAnew", spec := "linesAnew", inPlace := ["slices.overlaps[int]"], apart := false, narrowed := true }
def LinesAnewUptoSaid : Prop := linesAnewUptoRow.holds Try.pinned (OpenSpec.upto linesAnewSpec)

/-- 'viewportlaw09.LinesCut', WHERE WHAT IT READS IS OF BULK AT MOST 1048576: true; the input reads as it did. -/
def linesCutUptoRow : OpenClaim := { program := "ytfjkghbnlmhcnaa", sum := "65a74232e8a6a7e1e688aad59d843238c02a2f2c74c93f94dc4fdddc2e9f3015", func := "viewport/viewportlaw09.LinesCut", spec := "linesCut", inPlace := ["slices.overlaps[int]"], apart := false, narrowed := true }
def LinesCutUptoSaid : Prop := linesCutUptoRow.holds Try.pinned (OpenSpec.upto linesCutSpec)

/-- 'viewportlaw09.LinesBack', WHERE WHAT IT READS IS OF BULK AT MOST 1048576: true; the input reads as it did. -/
def linesBackUptoRow : OpenClaim := { program := "ytfjkghbnlmhcnaa", sum := "65a74232e8a6a7e1e688aad59d843238c02a2f2c74c93f94dc4fdddc2e9f3015", func := "viewport/viewportlaw09.LinesBack", spec := "linesBack", inPlace := ["slices.overlaps[int]"], apart := false, narrowed := true }
def LinesBackUptoSaid : Prop := linesBackUptoRow.holds Try.pinned (OpenSpec.upto linesBackSpec)

/-- 'viewportlaw09.LinesNames', WHERE WHAT IT READS IS OF BULK AT MOST 1048576: true; the input reads as it did. -/
def linesNamesUptoRow : OpenClaim := { program := "ytfjkghbnlmhcnaa", sum := "65a74232e8a6a7e1e688aad59d843238c02a2f2c74c93f94dc4fdddc2e9f3015", func := "viewport/viewportlaw09.LinesNames", spec := "linesNames", inPlace := ["slices.overlaps[int]"], apart := false, narrowed := true }
def LinesNamesUptoSaid : Prop := linesNamesUptoRow.holds Try.pinned (OpenSpec.upto linesNamesSpec)

/-- 'viewportlaw09.LinesScript', WHERE WHAT IT READS IS OF BULK AT MOST 1048576: true; the input reads as it did. -/
def linesScriptUptoRow : OpenClaim := { program := "ytfjkghbnlmhcnaa", sum := "65a74232e8a6a7e1e688aad59d843238c02a2f2c74c93f94dc4fdddc2e9f3015", func := "viewport/viewportlaw09.LinesScript", spec := "linesScript", inPlace := ["slices.overlaps[int]"], apart := false, narrowed := true }
def LinesScriptUptoSaid : Prop := linesScriptUptoRow.holds Try.pinned (OpenSpec.upto linesScriptSpec)

/-- 'viewportlaw09.LinesNil', WHERE WHAT IT READS IS OF BULK AT MOST 1048576: true; the input reads as it did. -/
def linesNilUptoRow : OpenClaim := { program := "ytfjkghbnlmhcnaa", sum := "65a74232e8a6a7e1e688aad59d843238c02a2f2c74c93f94dc4fdddc2e9f3015", func := "viewport/viewportlaw09.LinesNil", spec := "linesNil", inPlace := ["slices.overlaps[int]"], apart := false, narrowed := true }
def LinesNilUptoSaid : Prop := linesNilUptoRow.holds Try.pinned (OpenSpec.upto linesNilSpec)

/-- 'viewportlaw10.ShiftMerged', WHERE WHAT IT READS IS OF BULK AT MOST 1048576: true; the input reads as it did. -/
def shiftMergedUptoRow : OpenClaim := { program := "ytfjkghbnlmhcnaa", sum := "65a74232e8a6a7e1e688aad59d843238c02a2f2c74c93f94dc4fdddc2e9f3015", func := "viewport/viewportlaw10.ShiftMerged", spec := "shiftMerged", unfollowed := true, recurses := true, apart := false, narrowed := true }
def ShiftMergedUptoSaid : Prop := shiftMergedUptoRow.holds Try.pinned (OpenSpec.upto shiftMergedSpec)

/-- 'viewportlaw10.ShiftNames', WHERE WHAT IT READS IS OF BULK AT MOST 1048576: true; the input reads as it did. -/
def shiftNamesUptoRow : OpenClaim := { program := "ytfjkghbnlmhcnaa", sum := "65a74232e8a6a7e1e688aad59d843238c02a2f2c74c93f94dc4fdddc2e9f3015", func := "viewport/viewportlaw10.ShiftNames", spec := "shiftNames", unfollowed := true, recurses := true, apart := false, narrowed := true }
def ShiftNamesUptoSaid : Prop := shiftNamesUptoRow.holds Try.pinned (OpenSpec.upto shiftNamesSpec)

end Rows
end Go.Proofs.Ytfjkghbnlmhcnaa
