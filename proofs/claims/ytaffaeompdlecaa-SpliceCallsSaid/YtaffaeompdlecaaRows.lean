/-
  No cell of these rows narrows 'for every input' (looked for: loops, veiled, ifaces, maps, wideKeys, modest, calm, conditions, laid).
  DERIVED. THE GIVEN ROWS OF THIS SEAT. 17 by the template 'for every input the law returns true; each argument reads behind the call as it read before'; 0 by the template 'total and deterministic' (their statements: YtaffaeompdlecaaTotals.lean).
  GIVEN WITH THE SEED: the statements are not yours to turn. If you find one false, say at which input.
  Laid BY PROGRAM, IN A SANDBOX (cutbox-rows.mjs): the forced cells as the released guide's own fill.sh prints them over the translation b5d767a3ad966218… (all of the seat's roots in one cut). By AI agents, Wed Nov 11 2026. No macro, syntax, notation, axiom, sorry.
-/
import Derived.Test.YtaffaeompdlecaaChecked
import GoSem.Claim
import GoSem.ClaimJoined
import GoSem.ClaimMapViews
import Derived.JoinedTies
import Derived.KernelRfl
namespace Go.Proofs.Ytaffaeompdlecaa
/- THE CELL 'sum', in the pinned program and in every row, IS THE sha256 OF THE DUMP (.gsa) THAT YtaffaeompdlecaaProg.lean LOADS. Nothing in Lean hashes anything: it is a label: what it is worth is what the hold of that sum in a sandbox is worth. -/
noncomputable def Try.pinned : Pinned := { name := "ytaffaeompdlecaa", sum := "b5d767a3ad966218870058cafba51ad78b85231ce9d01b929ad2d58b083cf811", checked := Try.checked }
namespace Rows
def none {H : Type} : Left H := { results := [], args := [] }

/-- 'viewportlaw16.TreePaths': WHATEVER THE INPUT: true; the input reads as it did. -/
def treePathsSpec : ChangeSpec := { name := "treePaths", fn := fun _ => fun
  | [d1, d2] => { results := [.lit (.bool true)], args := [d1, d2] }
  | _ => none }
def treePathsRow : OpenClaim := { program := "ytaffaeompdlecaa", sum := "b5d767a3ad966218870058cafba51ad78b85231ce9d01b929ad2d58b083cf811", func := "viewport/viewportlaw16.TreePaths", spec := "treePaths", unfollowed := true, recurses := true, apart := false }
def TreePathsSaid : Prop := treePathsRow.holds Try.pinned (OpenSpec.ofChange treePathsSpec)

/-- ITS FALSE NEIGHBOUR: 'it returns false'. Refute it at one input. -/
def treePathsWrong : ChangeSpec := { name := "treePaths", fn := fun _ => fun
  | [d1, d2] => { results := [.lit (.bool false)], args := [d1, d2] }
  | _ => none }
def TreePathsWrongFalsely : Prop := treePathsRow.holds Try.pinned (OpenSpec.ofChange treePathsWrong)

/-- 'viewportlaw16.TreePuts': WHATEVER THE INPUT: true; the input reads as it did. -/
def treePutsSpec : ChangeSpec := { name := "treePuts", fn := fun _ => fun
  | [d1, d2, d3] => { results := [.lit (.bool true)], args := [d1, d2, d3] }
  | _ => none }
def treePutsRow : OpenClaim := { program := "ytaffaeompdlecaa", sum := "b5d767a3ad966218870058cafba51ad78b85231ce9d01b929ad2d58b083cf811", func := "viewport/viewportlaw16.TreePuts", spec := "treePuts", unfollowed := true, recurses := true, apart := false }
def TreePutsSaid : Prop := treePutsRow.holds Try.pinned (OpenSpec.ofChange treePutsSpec)

/-- ITS FALSE NEIGHBOUR: 'it returns false'. Refute it at one input. -/
def treePutsWrong : ChangeSpec := { name := "treePuts", fn := fun _ => fun
  | [d1, d2, d3] => { results := [.lit (.bool false)], args := [d1, d2, d3] }
  | _ => none }
def TreePutsWrongFalsely : Prop := treePutsRow.holds Try.pinned (OpenSpec.ofChange treePutsWrong)

/-- 'viewportlaw16.TreeEdits': WHATEVER THE INPUT: true; the input reads as it did. -/
def treeEditsSpec : ChangeSpec := { name := "treeEdits", fn := fun _ => fun
  | [d1, d2, d3] => { results := [.lit (.bool true)], args := [d1, d2, d3] }
  | _ => none }
def treeEditsRow : OpenClaim := { program := "ytaffaeompdlecaa", sum := "b5d767a3ad966218870058cafba51ad78b85231ce9d01b929ad2d58b083cf811", func := "viewport/viewportlaw16.TreeEdits", spec := "treeEdits", unfollowed := true, recurses := true, apart := false }
def TreeEditsSaid : Prop := treeEditsRow.holds Try.pinned (OpenSpec.ofChange treeEditsSpec)

/-- ITS FALSE NEIGHBOUR: 'it returns false'. Refute it at one input. -/
def treeEditsWrong : ChangeSpec := { name := "treeEdits", fn := fun _ => fun
  | [d1, d2, d3] => { results := [.lit (.bool false)], args := [d1, d2, d3] }
  | _ => none }
def TreeEditsWrongFalsely : Prop := treeEditsRow.holds Try.pinned (OpenSpec.ofChange treeEditsWrong)

/-- 'viewportlaw16.TreeClean': WHATEVER THE INPUT: true; the input reads as it did. -/
def treeCleanSpec : ChangeSpec := { name := "treeClean", fn := fun _ => fun
  | [d1, d2, d3] => { results := [.lit (.bool true)], args := [d1, d2, d3] }
  | _ => none }
def treeCleanRow : OpenClaim := { program := "ytaffaeompdlecaa", sum := "b5d767a3ad966218870058cafba51ad78b85231ce9d01b929ad2d58b083cf811", func := "viewport/viewportlaw16.TreeClean", spec := "treeClean", unfollowed := true, recurses := true, apart := false }
def TreeCleanSaid : Prop := treeCleanRow.holds Try.pinned (OpenSpec.ofChange treeCleanSpec)

/-- ITS FALSE NEIGHBOUR: 'it returns false'. Refute it at one input. -/
def treeCleanWrong : ChangeSpec := { name := "treeClean", fn := fun _ => fun
  | [d1, d2, d3] => { results := [.lit (.bool false)], args := [d1, d2, d3] }
  | _ => none }
def TreeCleanWrongFalsely : Prop := treeCleanRow.holds Try.pinned (OpenSpec.ofChange treeCleanWrong)

/-- 'viewportlaw16.TreeNames': WHATEVER THE INPUT: true; the input reads as it did. -/
def treeNamesSpec : ChangeSpec := { name := "treeNames", fn := fun _ => fun
  | [] => { results := [.lit (.bool true)], args := [] }
  | _ => none }
def treeNamesRow : OpenClaim := { program := "ytaffaeompdlecaa", sum := "b5d767a3ad966218870058cafba51ad78b85231ce9d01b929ad2d58b083cf811", func := "viewport/viewportlaw16.TreeNames", spec := "treeNames", unfollowed := true, recurses := true, apart := false }
def TreeNamesSaid : Prop := treeNamesRow.holds Try.pinned (OpenSpec.ofChange treeNamesSpec)

/-- ITS FALSE NEIGHBOUR: 'it returns false'. Refute it at one input. -/
def treeNamesWrong : ChangeSpec := { name := "treeNames", fn := fun _ => fun
  | [] => { results := [.lit (.bool false)], args := [] }
  | _ => none }
def TreeNamesWrongFalsely : Prop := treeNamesRow.holds Try.pinned (OpenSpec.ofChange treeNamesWrong)

/-- 'viewportlaw16.TreeCalls': WHATEVER THE INPUT: true; the input reads as it did. -/
def treeCallsSpec : ChangeSpec := { name := "treeCalls", fn := fun _ => fun
  | [d1, d2, d3, d4, d5, d6, d7] => { results := [.lit (.bool true)], args := [d1, d2, d3, d4, d5, d6, d7] }
  | _ => none }
def treeCallsRow : OpenClaim := { program := "ytaffaeompdlecaa", sum := "b5d767a3ad966218870058cafba51ad78b85231ce9d01b929ad2d58b083cf811", func := "viewport/viewportlaw16.TreeCalls", spec := "treeCalls", unfollowed := true, recurses := true, apart := false }
def TreeCallsSaid : Prop := treeCallsRow.holds Try.pinned (OpenSpec.ofChange treeCallsSpec)

/-- ITS FALSE NEIGHBOUR: 'it returns false'. Refute it at one input. -/
def treeCallsWrong : ChangeSpec := { name := "treeCalls", fn := fun _ => fun
  | [d1, d2, d3, d4, d5, d6, d7] => { results := [.lit (.bool false)], args := [d1, d2, d3, d4, d5, d6, d7] }
  | _ => none }
def TreeCallsWrongFalsely : Prop := treeCallsRow.holds Try.pinned (OpenSpec.ofChange treeCallsWrong)

/-- 'viewportlaw26.StylesLeaf': WHATEVER THE INPUT: true; the input reads as it did. -/
def stylesLeafSpec : ChangeSpec := { name := "stylesLeaf", fn := fun _ => fun
  | [d1, d2, d3] => { results := [.lit (.bool true)], args := [d1, d2, d3] }
  | _ => none }
def stylesLeafRow : OpenClaim := { program := "ytaffaeompdlecaa", sum := "b5d767a3ad966218870058cafba51ad78b85231ce9d01b929ad2d58b083cf811", func := "viewport/viewportlaw26.StylesLeaf", spec := "stylesLeaf", unfollowed := true, recurses := true, apart := false }
def StylesLeafSaid : Prop := stylesLeafRow.holds Try.pinned (OpenSpec.ofChange stylesLeafSpec)

/-- ITS FALSE NEIGHBOUR: 'it returns false'. Refute it at one input. -/
def stylesLeafWrong : ChangeSpec := { name := "stylesLeaf", fn := fun _ => fun
  | [d1, d2, d3] => { results := [.lit (.bool false)], args := [d1, d2, d3] }
  | _ => none }
def StylesLeafWrongFalsely : Prop := stylesLeafRow.holds Try.pinned (OpenSpec.ofChange stylesLeafWrong)

/-- 'viewportlaw26.StylesOwn': WHATEVER THE INPUT: true; the input reads as it did. -/
def stylesOwnSpec : ChangeSpec := { name := "stylesOwn", fn := fun _ => fun
  | [d1, d2, d3, d4] => { results := [.lit (.bool true)], args := [d1, d2, d3, d4] }
  | _ => none }
def stylesOwnRow : OpenClaim := { program := "ytaffaeompdlecaa", sum := "b5d767a3ad966218870058cafba51ad78b85231ce9d01b929ad2d58b083cf811", func := "viewport/viewportlaw26.StylesOwn", spec := "stylesOwn", unfollowed := true, recurses := true, apart := false }
def StylesOwnSaid : Prop := stylesOwnRow.holds Try.pinned (OpenSpec.ofChange stylesOwnSpec)

/-- ITS FALSE NEIGHBOUR: 'it returns false'. Refute it at one input. -/
def stylesOwnWrong : ChangeSpec := { name := "stylesOwn", fn := fun _ => fun
  | [d1, d2, d3, d4] => { results := [.lit (.bool false)], args := [d1, d2, d3, d4] }
  | _ => none }
def StylesOwnWrongFalsely : Prop := stylesOwnRow.holds Try.pinned (OpenSpec.ofChange stylesOwnWrong)

/-- 'viewportlaw21.ReuseApart': WHATEVER THE INPUT: true; the input reads as it did. -/
def reuseApartSpec : ChangeSpec := { name := "reuseApart", fn := fun _ => fun
  | [d1, d2] => { results := [.lit (.bool true)], args := [d1, d2] }
  | _ => none }
def reuseApartRow : OpenClaim := { program := "ytaffaeompdlecaa", sum := "b5d767a3ad966218870058cafba51ad78b85231ce9d01b929ad2d58b083cf811", func := "viewport/viewportlaw21.ReuseApart", spec := "reuseApart", unfollowed := true, recurses := true, apart := false }
def ReuseApartSaid : Prop := reuseApartRow.holds Try.pinned (OpenSpec.ofChange reuseApartSpec)

/-- ITS FALSE NEIGHBOUR: 'it returns false'. Refute it at one input. -/
def reuseApartWrong : ChangeSpec := { name := "reuseApart", fn := fun _ => fun
  | [d1, d2] => { results := [.lit (.bool false)], args := [d1, d2] }
  | _ => none }
def ReuseApartWrongFalsely : Prop := reuseApartRow.holds Try.pinned (OpenSpec.ofChange reuseApartWrong)

/-- 'viewportlaw21.ReuseTakes': WHATEVER THE INPUT: true; the input reads as it did. -/
def reuseTakesSpec : ChangeSpec := { name := "reuseTakes", fn := fun _ => fun
  | [d1, d2] => { results := [.lit (.bool true)], args := [d1, d2] }
  | _ => none }
def reuseTakesRow : OpenClaim := { program := "ytaffaeompdlecaa", sum := "b5d767a3ad966218870058cafba51ad78b85231ce9d01b929ad2d58b083cf811", func := "viewport/viewportlaw21.ReuseTakes", spec := "reuseTakes", unfollowed := true, recurses := true, apart := false }
def ReuseTakesSaid : Prop := reuseTakesRow.holds Try.pinned (OpenSpec.ofChange reuseTakesSpec)

/-- ITS FALSE NEIGHBOUR: 'it returns false'. Refute it at one input. -/
def reuseTakesWrong : ChangeSpec := { name := "reuseTakes", fn := fun _ => fun
  | [d1, d2] => { results := [.lit (.bool false)], args := [d1, d2] }
  | _ => none }
def ReuseTakesWrongFalsely : Prop := reuseTakesRow.holds Try.pinned (OpenSpec.ofChange reuseTakesWrong)

/-- 'viewportlaw21.ReuseNames': WHATEVER THE INPUT: true; the input reads as it did. -/
def reuseNamesSpec : ChangeSpec := { name := "reuseNames", fn := fun _ => fun
  | [] => { results := [.lit (.bool true)], args := [] }
  | _ => none }
def reuseNamesRow : OpenClaim := { program := "ytaffaeompdlecaa", sum := "b5d767a3ad966218870058cafba51ad78b85231ce9d01b929ad2d58b083cf811", func := "viewport/viewportlaw21.ReuseNames", spec := "reuseNames", unfollowed := true, recurses := true, apart := false }
def ReuseNamesSaid : Prop := reuseNamesRow.holds Try.pinned (OpenSpec.ofChange reuseNamesSpec)

/-- ITS FALSE NEIGHBOUR: 'it returns false'. Refute it at one input. -/
def reuseNamesWrong : ChangeSpec := { name := "reuseNames", fn := fun _ => fun
  | [] => { results := [.lit (.bool false)], args := [] }
  | _ => none }
def ReuseNamesWrongFalsely : Prop := reuseNamesRow.holds Try.pinned (OpenSpec.ofChange reuseNamesWrong)

/-- 'viewportlaw21.ReuseCalls': WHATEVER THE INPUT: true; the input reads as it did. -/
def reuseCallsSpec : ChangeSpec := { name := "reuseCalls", fn := fun _ => fun
  | [d1, d2, d3] => { results := [.lit (.bool true)], args := [d1, d2, d3] }
  | _ => none }
def reuseCallsRow : OpenClaim := { program := "ytaffaeompdlecaa", sum := "b5d767a3ad966218870058cafba51ad78b85231ce9d01b929ad2d58b083cf811", func := "viewport/viewportlaw21.ReuseCalls", spec := "reuseCalls", unfollowed := true, recurses := true, apart := false }
def ReuseCallsSaid : Prop := reuseCallsRow.holds Try.pinned (OpenSpec.ofChange reuseCallsSpec)

/-- ITS FALSE NEIGHBOUR: 'it returns false'. Refute it at one input. -/
def reuseCallsWrong : ChangeSpec := { name := "reuseCalls", fn := fun _ => fun
  | [d1, d2, d3] => { results := [.lit (.bool false)], args := [d1, d2, d3] }
  | _ => none }
def ReuseCallsWrongFalsely : Prop := reuseCallsRow.holds Try.pinned (OpenSpec.ofChange reuseCallsWrong)

/-- 'viewportlaw20.SpliceFits': WHATEVER THE INPUT: true; the input reads as it did. -/
def spliceFitsSpec : ChangeSpec := { name := "spliceFits", fn := fun _ => fun
  | [d1, d2, d3] => { results := [.lit (.bool true)], args := [d1, d2, d3] }
  | _ => none }
def spliceFitsRow : OpenClaim := { program := "ytaffaeompdlecaa", sum := "b5d767a3ad966218870058cafba51ad78b85231ce9d01b929ad2d58b083cf811", func := "viewport/viewportlaw20.SpliceFits", spec := "spliceFits", unfollowed := true, recurses := true, apart := false }
def SpliceFitsSaid : Prop := spliceFitsRow.holds Try.pinned (OpenSpec.ofChange spliceFitsSpec)

/-- ITS FALSE NEIGHBOUR: 'it returns false'. Refute it at one input. -/
def spliceFitsWrong : ChangeSpec := { name := "spliceFits", fn := fun _ => fun
  | [d1, d2, d3] => { results := [.lit (.bool false)], args := [d1, d2, d3] }
  | _ => none }
def SpliceFitsWrongFalsely : Prop := spliceFitsRow.holds Try.pinned (OpenSpec.ofChange spliceFitsWrong)

/-- 'viewportlaw20.SpliceBits': WHATEVER THE INPUT: true; the input reads as it did. -/
def spliceBitsSpec : ChangeSpec := { name := "spliceBits", fn := fun _ => fun
  | [d1, d2, d3] => { results := [.lit (.bool true)], args := [d1, d2, d3] }
  | _ => none }
def spliceBitsRow : OpenClaim := { program := "ytaffaeompdlecaa", sum := "b5d767a3ad966218870058cafba51ad78b85231ce9d01b929ad2d58b083cf811", func := "viewport/viewportlaw20.SpliceBits", spec := "spliceBits", unfollowed := true, recurses := true, apart := false }
def SpliceBitsSaid : Prop := spliceBitsRow.holds Try.pinned (OpenSpec.ofChange spliceBitsSpec)

/-- ITS FALSE NEIGHBOUR: 'it returns false'. Refute it at one input. -/
def spliceBitsWrong : ChangeSpec := { name := "spliceBits", fn := fun _ => fun
  | [d1, d2, d3] => { results := [.lit (.bool false)], args := [d1, d2, d3] }
  | _ => none }
def SpliceBitsWrongFalsely : Prop := spliceBitsRow.holds Try.pinned (OpenSpec.ofChange spliceBitsWrong)

/-- 'viewportlaw20.SpliceMoves': WHATEVER THE INPUT: true; the input reads as it did. -/
def spliceMovesSpec : ChangeSpec := { name := "spliceMoves", fn := fun _ => fun
  | [d1, d2, d3] => { results := [.lit (.bool true)], args := [d1, d2, d3] }
  | _ => none }
def spliceMovesRow : OpenClaim := { program := "ytaffaeompdlecaa", sum := "b5d767a3ad966218870058cafba51ad78b85231ce9d01b929ad2d58b083cf811", func := "viewport/viewportlaw20.SpliceMoves", spec := "spliceMoves", unfollowed := true, recurses := true, apart := false }
def SpliceMovesSaid : Prop := spliceMovesRow.holds Try.pinned (OpenSpec.ofChange spliceMovesSpec)

/-- ITS FALSE NEIGHBOUR: 'it returns false'. Refute it at one input. -/
def spliceMovesWrong : ChangeSpec := { name := "spliceMoves", fn := fun _ => fun
  | [d1, d2, d3] => { results := [.lit (.bool false)], args := [d1, d2, d3] }
  | _ => none }
def SpliceMovesWrongFalsely : Prop := spliceMovesRow.holds Try.pinned (OpenSpec.ofChange spliceMovesWrong)

/-- 'viewportlaw20.SpliceNames': WHATEVER THE INPUT: true; the input reads as it did. -/
def spliceNamesSpec : ChangeSpec := { name := "spliceNames", fn := fun _ => fun
  | [] => { results := [.lit (.bool true)], args := [] }
  | _ => none }
def spliceNamesRow : OpenClaim := { program := "ytaffaeompdlecaa", sum := "b5d767a3ad966218870058cafba51ad78b85231ce9d01b929ad2d58b083cf811", func := "viewport/viewportlaw20.SpliceNames", spec := "spliceNames", unfollowed := true, recurses := true, apart := false }
def SpliceNamesSaid : Prop := spliceNamesRow.holds Try.pinned (OpenSpec.ofChange spliceNamesSpec)

/-- ITS FALSE NEIGHBOUR: 'it returns false'. Refute it at one input. -/
def spliceNamesWrong : ChangeSpec := { name := "spliceNames", fn := fun _ => fun
  | [] => { results := [.lit (.bool false)], args := [] }
  | _ => none }
def SpliceNamesWrongFalsely : Prop := spliceNamesRow.holds Try.pinned (OpenSpec.ofChange spliceNamesWrong)

/-- 'viewportlaw20.SpliceCalls': WHATEVER THE INPUT: true; the input reads as it did. -/
def spliceCallsSpec : ChangeSpec := { name := "spliceCalls", fn := fun _ => fun
  | [d1, d2, d3, d4, d5, d6] => { results := [.lit (.bool true)], args := [d1, d2, d3, d4, d5, d6] }
  | _ => none }
def spliceCallsRow : OpenClaim := { program := "ytaffaeompdlecaa", sum := "b5d767a3ad966218870058cafba51ad78b85231ce9d01b929ad2d58b083cf811", func := "viewport/viewportlaw20.SpliceCalls", spec := "spliceCalls", unfollowed := true, recurses := true, apart := false }
def SpliceCallsSaid : Prop := spliceCallsRow.holds Try.pinned (OpenSpec.ofChange spliceCallsSpec)

/-- ITS FALSE NEIGHBOUR: 'it returns false'. Refute it at one input. -/
def spliceCallsWrong : ChangeSpec := { name := "spliceCalls", fn := fun _ => fun
  | [d1, d2, d3, d4, d5, d6] => { results := [.lit (.bool false)], args := [d1, d2, d3, d4, d5, d6] }
  | _ => none }
def SpliceCallsWrongFalsely : Prop := spliceCallsRow.holds Try.pinned (OpenSpec.ofChange spliceCallsWrong)

/- THE SECOND FORM. 'bulk': how many values and letters a reading holds, each counted each time it is reached (what is shared counts as often as it is met; a slice's spare places count too). A statement '..UptoSaid' is the law's where the arguments, and the package variables that the reading takes, are together of bulk at most 1048576: NARROWER than '..Said'. Prove '..Said' where nothing that the law and all that it calls make is longer than what came in: it says more and counts as full. Else prove '..UptoSaid'. A law counts once. -/
mutual
def uptoBulk {H : Type} : DataW H → Nat
  | .lit (.string bytes) => bytes.length + 1
  | .lit _ => 1
  | .nil => 1
  | .ptr d => uptoBulk d + 1
  | .slice elems spare => uptoBulkAll elems + uptoBulkAll spare + 1
  | .agg parts => uptoBulkAll parts + 1
  | .iface _ d => uptoBulk d + 1
  | .map entries => uptoBulkEntries entries + 1
  | .held _ => 1
def uptoBulkAll {H : Type} : List (DataW H) → Nat
  | [] => 0
  | d :: r => uptoBulk d + uptoBulkAll r
def uptoBulkEntries {H : Type} : List (Lit × DataW H) → Nat
  | [] => 0
  | x :: r => uptoBulkEntry x + uptoBulkEntries r
def uptoBulkEntry {H : Type} : Lit × DataW H → Nat
  | (.string bytes, d) => bytes.length + uptoBulk d + 1
  | (_, d) => uptoBulk d + 1
 end
def uptoSmall : (H : Type) → List (DataW H) → Bool := fun _ ds => decide (uptoBulkAll ds ≤ 1048576)
def OpenSpec.upto (s : _root_.Go.ChangeSpec) : _root_.Go.OpenSpec := { _root_.Go.OpenSpec.ofChange s with cond := some uptoSmall }

/-- 'viewportlaw16.TreePaths', WHERE WHAT IT READS IS OF BULK AT MOST 1048576: true; the input reads as it did. -/
def treePathsUptoRow : OpenClaim := { program := "ytaffaeompdlecaa", sum := "b5d767a3ad966218870058cafba51ad78b85231ce9d01b929ad2d58b083cf811", func := "viewport/viewportlaw16.TreePaths", spec := "treePaths", unfollowed := true, recurses := true, apart := false, narrowed := true }
def TreePathsUptoSaid : Prop := treePathsUptoRow.holds Try.pinned (OpenSpec.upto treePathsSpec)

/-- 'viewportlaw16.TreePuts', WHERE WHAT IT READS IS OF BULK AT MOST 1048576: true; the input reads as it did. -/
def treePutsUptoRow : OpenClaim := { program := "ytaffaeompdlecaa", sum := "b5d767a3ad966218870058cafba51ad78b85231ce9d01b929ad2d58b083cf811", func := "viewport/viewportlaw16.TreePuts", spec := "treePuts", unfollowed := true, recurses := true, apart := false, narrowed := true }
def TreePutsUptoSaid : Prop := treePutsUptoRow.holds Try.pinned (OpenSpec.upto treePutsSpec)

/-- 'viewportlaw16.TreeEdits', WHERE WHAT IT READS IS OF BULK AT MOST 1048576: true; the input reads as it did. -/
def treeEditsUptoRow : OpenClaim := { program := "ytaffaeompdlecaa", sum := "b5d767a3ad966218870058cafba51ad78b85231ce9d01b929ad2d58b083cf811", func := "viewport/viewportlaw16.TreeEdits", spec := "treeEdits", unfollowed := true, recurses := true, apart := false, narrowed := true }
def TreeEditsUptoSaid : Prop := treeEditsUptoRow.holds Try.pinned (OpenSpec.upto treeEditsSpec)

/-- 'viewportlaw16.TreeClean', WHERE WHAT IT READS IS OF BULK AT MOST 1048576: true; the input reads as it did. -/
def treeCleanUptoRow : OpenClaim := { program := "ytaffaeompdlecaa", sum := "b5d767a3ad966218870058cafba51ad78b85231ce9d01b929ad2d58b083cf811", func := "viewport/viewportlaw16.TreeClean", spec := "treeClean", unfollowed := true, recurses := true, apart := false, narrowed := true }
def TreeCleanUptoSaid : Prop := treeCleanUptoRow.holds Try.pinned (OpenSpec.upto treeCleanSpec)

/-- 'viewportlaw16.TreeNames', WHERE WHAT IT READS IS OF BULK AT MOST 1048576: true; the input reads as it did. -/
def treeNamesUptoRow : OpenClaim := { program := "ytaffaeompdlecaa", sum := "b5d767a3ad966218870058cafba51ad78b85231ce9d01b929ad2d58b083cf811", func := "viewport/viewportlaw16.TreeNames", spec := "treeNames", unfollowed := true, recurses := true, apart := false, narrowed := true }
def TreeNamesUptoSaid : Prop := treeNamesUptoRow.holds Try.pinned (OpenSpec.upto treeNamesSpec)

/-- 'viewportlaw16.TreeCalls', WHERE WHAT IT READS IS OF BULK AT MOST 1048576: true; the input reads as it did. -/
def treeCallsUptoRow : OpenClaim := { program := "ytaffaeompdlecaa", sum := "b5d767a3ad966218870058cafba51ad78b85231ce9d01b929ad2d58b083cf811", func := "viewport/viewportlaw16.TreeCalls", spec := "treeCalls", unfollowed := true, recurses := true, apart := false, narrowed := true }
def TreeCallsUptoSaid : Prop := treeCallsUptoRow.holds Try.pinned (OpenSpec.upto treeCallsSpec)

/-- 'viewportlaw26.StylesLeaf', WHERE WHAT IT READS IS OF BULK AT MOST 1048576: true; the input reads as it did. -/
def stylesLeafUptoRow : OpenClaim := { program := "ytaffaeompdlecaa", sum := "b5d767a3ad966218870058cafba51ad78b85231ce9d01b929ad2d58b083cf811", func := "viewport/viewportlaw26.StylesLeaf", spec := "stylesLeaf", unfollowed := true, recurses := true, apart := false, narrowed := true }
def StylesLeafUptoSaid : Prop := stylesLeafUptoRow.holds Try.pinned (OpenSpec.upto stylesLeafSpec)

/-- 'viewportlaw26.StylesOwn', WHERE WHAT IT READS IS OF BULK AT MOST 1048576: true; the input reads as it did. -/
def stylesOwnUptoRow : OpenClaim := { program := "ytaffaeompdlecaa", sum := "b5d767a3ad966218870058cafba51ad78b85231ce9d01b929ad2d58b083cf811", func := "viewport/viewportlaw26.StylesOwn", spec := "stylesOwn", unfollowed := true, recurses := true, apart := false, narrowed := true }
def StylesOwnUptoSaid : Prop := stylesOwnUptoRow.holds Try.pinned (OpenSpec.upto stylesOwnSpec)

/-- 'viewportlaw21.ReuseApart', WHERE WHAT IT READS IS OF BULK AT MOST 1048576: true; the input reads as it did. -/
def reuseApartUptoRow : OpenClaim := { program := "ytaffaeompdlecaa", sum := "b5d767a3ad966218870058cafba51ad78b85231ce9d01b929ad2d58b083cf811", func := "viewport/viewportlaw21.ReuseApart", spec := "reuseApart", unfollowed := true, recurses := true, apart := false, narrowed := true }
def ReuseApartUptoSaid : Prop := reuseApartUptoRow.holds Try.pinned (OpenSpec.upto reuseApartSpec)

/-- 'viewportlaw21.ReuseTakes', WHERE WHAT IT READS IS OF BULK AT MOST 1048576: true; the input reads as it did. -/
def reuseTakesUptoRow : OpenClaim := { program := "ytaffaeompdlecaa", sum := "b5d767a3ad966218870058cafba51ad78b85231ce9d01b929ad2d58b083cf811", func := "viewport/viewportlaw21.ReuseTakes", spec := "reuseTakes", unfollowed := true, recurses := true, apart := false, narrowed := true }
def ReuseTakesUptoSaid : Prop := reuseTakesUptoRow.holds Try.pinned (OpenSpec.upto reuseTakesSpec)

/-- 'viewportlaw21.ReuseNames', WHERE WHAT IT READS IS OF BULK AT MOST 1048576: true; the input reads as it did. -/
def reuseNamesUptoRow : OpenClaim := { program := "ytaffaeompdlecaa", sum := "b5d767a3ad966218870058cafba51ad78b85231ce9d01b929ad2d58b083cf811", func := "viewport/viewportlaw21.ReuseNames", spec := "reuseNames", unfollowed := true, recurses := true, apart := false, narrowed := true }
def ReuseNamesUptoSaid : Prop := reuseNamesUptoRow.holds Try.pinned (OpenSpec.upto reuseNamesSpec)

/-- 'viewportlaw21.ReuseCalls', WHERE WHAT IT READS IS OF BULK AT MOST 1048576: true; the input reads as it did. -/
def reuseCallsUptoRow : OpenClaim := { program := "ytaffaeompdlecaa", sum := "b5d767a3ad966218870058cafba51ad78b85231ce9d01b929ad2d58b083cf811", func := "viewport/viewportlaw21.ReuseCalls", spec := "reuseCalls", unfollowed := true, recurses := true, apart := false, narrowed := true }
def ReuseCallsUptoSaid : Prop := reuseCallsUptoRow.holds Try.pinned (OpenSpec.upto reuseCallsSpec)

/-- 'viewportlaw20.SpliceFits', WHERE WHAT IT READS IS OF BULK AT MOST 1048576: true; the input reads as it did. -/
def spliceFitsUptoRow : OpenClaim := { program := "ytaffaeompdlecaa", sum := "b5d767a3ad966218870058cafba51ad78b85231ce9d01b929ad2d58b083cf811", func := "viewport/viewportlaw20.SpliceFits", spec := "spliceFits", unfollowed := true, recurses := true, apart := false, narrowed := true }
def SpliceFitsUptoSaid : Prop := spliceFitsUptoRow.holds Try.pinned (OpenSpec.upto spliceFitsSpec)

/-- 'viewportlaw20.SpliceBits', WHERE WHAT IT READS IS OF BULK AT MOST 1048576: true; the input reads as it did. -/
def spliceBitsUptoRow : OpenClaim := { program := "ytaffaeompdlecaa", sum := "b5d767a3ad966218870058cafba51ad78b85231ce9d01b929ad2d58b083cf811", func := "viewport/viewportlaw20.SpliceBits", spec := "spliceBits", unfollowed := true, recurses := true, apart := false, narrowed := true }
def SpliceBitsUptoSaid : Prop := spliceBitsUptoRow.holds Try.pinned (OpenSpec.upto spliceBitsSpec)

/-- 'viewportlaw20.SpliceMoves', WHERE WHAT IT READS IS OF BULK AT MOST 1048576: true; the input reads as it did. -/
def spliceMovesUptoRow : OpenClaim := { program := "ytaffaeompdlecaa", sum := "b5d767a3ad966218870058cafba51ad78b85231ce9d01b929ad2d58b083cf811", func := "viewport/viewportlaw20.SpliceMoves", spec := "spliceMoves", unfollowed := true, recurses := true, apart := false, narrowed := true }
def SpliceMovesUptoSaid : Prop := spliceMovesUptoRow.holds Try.pinned (OpenSpec.upto spliceMovesSpec)

/-- 'viewportlaw20.SpliceNames', WHERE WHAT IT READS IS OF BULK AT MOST 1048576: true; the input reads as it did. -/
def spliceNamesUptoRow : OpenClaim := { program := "ytaffaeompdlecaa", sum := "b5d767a3ad966218870058cafba51ad78b85231ce9d01b929ad2d58b083cf811", func := "viewport/viewportlaw20.SpliceNames", spec := "spliceNames", unfollowed := true, recurses := true, apart := false, narrowed := true }
def SpliceNamesUptoSaid : Prop := spliceNamesUptoRow.holds Try.pinned (OpenSpec.upto spliceNamesSpec)

/-- 'viewportlaw20.SpliceCalls', WHERE WHAT IT READS IS OF BULK AT MOST 1048576: true; the input reads as it did. -/
def spliceCallsUptoRow : OpenClaim := { program := "ytaffaeompdlecaa", sum := "b5d767a3ad966218870058cafba51ad78b85231ce9d01b929ad2d58b083cf811", func := "viewport/viewportlaw20.SpliceCalls", spec := "spliceCalls", unfollowed := true, recurses := true, apart := false, narrowed := true }
def SpliceCallsUptoSaid : Prop := spliceCallsUptoRow.holds Try.pinned (OpenSpec.upto spliceCallsSpec)

end Rows
end Go.Proofs.Ytaffaeompdlecaa
