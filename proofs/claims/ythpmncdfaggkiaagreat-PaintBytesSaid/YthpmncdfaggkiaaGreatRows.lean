/-
  No cell of these rows narrows 'for every input' (looked for: loops, veiled, ifaces, maps, wideKeys, modest, calm, conditions, laid).
  DERIVED. THE GIVEN ROWS OF THIS SEAT. 8 by the template 'for every input the law returns true; each argument reads behind the call as it read before'; 0 by the template 'total and deterministic' (their statements: YthpmncdfaggkiaaGreatTotals.lean).
  GIVEN WITH THE SEED: the statements are not yours to turn. If you find one false, say at which input.
  Laid BY PROGRAM, IN A SANDBOX (cutbox-rows.mjs): the forced cells as the released guide's own fill.sh prints them over the translation 31628a4c10cdbfa4… (all of the seat's roots in one cut). By AI agents, Wed Nov 11 2026. No macro, syntax, notation, axiom, sorry.
-/
import Derived.Test.YthpmncdfaggkiaaGreatChecked
import GoSem.Claim
import GoSem.ClaimJoined
import GoSem.ClaimMapViews
import Derived.JoinedTies
import Derived.KernelRfl
namespace Go.Proofs.YthpmncdfaggkiaaGreat
/- THE CELL 'sum', in the pinned program and in every row, IS THE sha256 OF THE DUMP (.gsa) THAT YthpmncdfaggkiaaGreatProg.lean LOADS. Nothing in Lean hashes anything: it is a label: what it is worth is what the hold of that sum in a sandbox is worth. -/
noncomputable def Tryz.pinned : Pinned := { name := "ythpmncdfaggkiaagreat", sum := "31628a4c10cdbfa4ae6bb8f9b499edf3159724bf516c49da730b2379c2f1b230", checked := Tryz.checked }
namespace Rows
def none {H : Type} : Left H := { results := [], args := [] }

/-- 'viewportlaw25.TargetHolds': WHATEVER THE INPUT: true; the input reads as it did. -/
def targetHoldsSpec : ChangeSpec := { name := "targetHolds", fn := fun _ => fun
  | [d1, d2, d3, d4, d5] => { results := [.lit (.bool true)], args := [d1, d2, d3, d4, d5] }
  | _ => none }
def targetHoldsRow : OpenClaim := { program := "ythpmncdfaggkiaagreat", sum := "31628a4c10cdbfa4ae6bb8f9b499edf3159724bf516c49da730b2379c2f1b230", func := "viewport/viewportlaw25.TargetHolds", spec := "targetHolds", unfollowed := true, recurses := true, apart := false }
def TargetHoldsSaid : Prop := targetHoldsRow.holds Tryz.pinned (OpenSpec.ofChange targetHoldsSpec)

/-- ITS FALSE NEIGHBOUR: 'it returns false'. Refute it at one input. -/
def targetHoldsWrong : ChangeSpec := { name := "targetHolds", fn := fun _ => fun
  | [d1, d2, d3, d4, d5] => { results := [.lit (.bool false)], args := [d1, d2, d3, d4, d5] }
  | _ => none }
def TargetHoldsWrongFalsely : Prop := targetHoldsRow.holds Tryz.pinned (OpenSpec.ofChange targetHoldsWrong)

/-- 'viewportlaw25.TargetUp': WHATEVER THE INPUT: true; the input reads as it did. -/
def targetUpSpec : ChangeSpec := { name := "targetUp", fn := fun _ => fun
  | [d1, d2] => { results := [.lit (.bool true)], args := [d1, d2] }
  | _ => none }
def targetUpRow : OpenClaim := { program := "ythpmncdfaggkiaagreat", sum := "31628a4c10cdbfa4ae6bb8f9b499edf3159724bf516c49da730b2379c2f1b230", func := "viewport/viewportlaw25.TargetUp", spec := "targetUp", unfollowed := true, recurses := true, apart := false }
def TargetUpSaid : Prop := targetUpRow.holds Tryz.pinned (OpenSpec.ofChange targetUpSpec)

/-- ITS FALSE NEIGHBOUR: 'it returns false'. Refute it at one input. -/
def targetUpWrong : ChangeSpec := { name := "targetUp", fn := fun _ => fun
  | [d1, d2] => { results := [.lit (.bool false)], args := [d1, d2] }
  | _ => none }
def TargetUpWrongFalsely : Prop := targetUpRow.holds Tryz.pinned (OpenSpec.ofChange targetUpWrong)

/-- 'viewportlaw26.StylesNames': WHATEVER THE INPUT: true; the input reads as it did. -/
def stylesNamesSpec : ChangeSpec := { name := "stylesNames", fn := fun _ => fun
  | [] => { results := [.lit (.bool true)], args := [] }
  | _ => none }
def stylesNamesRow : OpenClaim := { program := "ythpmncdfaggkiaagreat", sum := "31628a4c10cdbfa4ae6bb8f9b499edf3159724bf516c49da730b2379c2f1b230", func := "viewport/viewportlaw26.StylesNames", spec := "stylesNames", unfollowed := true, recurses := true, apart := false }
def StylesNamesSaid : Prop := stylesNamesRow.holds Tryz.pinned (OpenSpec.ofChange stylesNamesSpec)

/-- ITS FALSE NEIGHBOUR: 'it returns false'. Refute it at one input. -/
def stylesNamesWrong : ChangeSpec := { name := "stylesNames", fn := fun _ => fun
  | [] => { results := [.lit (.bool false)], args := [] }
  | _ => none }
def StylesNamesWrongFalsely : Prop := stylesNamesRow.holds Tryz.pinned (OpenSpec.ofChange stylesNamesWrong)

/-- 'viewportlaw25.TargetNames': WHATEVER THE INPUT: true; the input reads as it did. -/
def targetNamesSpec : ChangeSpec := { name := "targetNames", fn := fun _ => fun
  | [] => { results := [.lit (.bool true)], args := [] }
  | _ => none }
def targetNamesRow : OpenClaim := { program := "ythpmncdfaggkiaagreat", sum := "31628a4c10cdbfa4ae6bb8f9b499edf3159724bf516c49da730b2379c2f1b230", func := "viewport/viewportlaw25.TargetNames", spec := "targetNames", unfollowed := true, recurses := true, apart := false }
def TargetNamesSaid : Prop := targetNamesRow.holds Tryz.pinned (OpenSpec.ofChange targetNamesSpec)

/-- ITS FALSE NEIGHBOUR: 'it returns false'. Refute it at one input. -/
def targetNamesWrong : ChangeSpec := { name := "targetNames", fn := fun _ => fun
  | [] => { results := [.lit (.bool false)], args := [] }
  | _ => none }
def TargetNamesWrongFalsely : Prop := targetNamesRow.holds Tryz.pinned (OpenSpec.ofChange targetNamesWrong)

/-- 'viewportlaw25.TargetCalls': WHATEVER THE INPUT: true; the input reads as it did. -/
def targetCallsSpec : ChangeSpec := { name := "targetCalls", fn := fun _ => fun
  | [d1, d2, d3, d4, d5] => { results := [.lit (.bool true)], args := [d1, d2, d3, d4, d5] }
  | _ => none }
def targetCallsRow : OpenClaim := { program := "ythpmncdfaggkiaagreat", sum := "31628a4c10cdbfa4ae6bb8f9b499edf3159724bf516c49da730b2379c2f1b230", func := "viewport/viewportlaw25.TargetCalls", spec := "targetCalls", unfollowed := true, recurses := true, apart := false }
def TargetCallsSaid : Prop := targetCallsRow.holds Tryz.pinned (OpenSpec.ofChange targetCallsSpec)

/-- ITS FALSE NEIGHBOUR: 'it returns false'. Refute it at one input. -/
def targetCallsWrong : ChangeSpec := { name := "targetCalls", fn := fun _ => fun
  | [d1, d2, d3, d4, d5] => { results := [.lit (.bool false)], args := [d1, d2, d3, d4, d5] }
  | _ => none }
def TargetCallsWrongFalsely : Prop := targetCallsRow.holds Tryz.pinned (OpenSpec.ofChange targetCallsWrong)

/-- 'viewportlaw28.PaintBytes': WHATEVER THE INPUT: true; the input reads as it did. -/
def paintBytesSpec : ChangeSpec := { name := "paintBytes", fn := fun _ => fun
  | [d1, d2, d3, d4] => { results := [.lit (.bool true)], args := [d1, d2, d3, d4] }
  | _ => none }
def paintBytesRow : OpenClaim := { program := "ythpmncdfaggkiaagreat", sum := "31628a4c10cdbfa4ae6bb8f9b499edf3159724bf516c49da730b2379c2f1b230", func := "viewport/viewportlaw28.PaintBytes", spec := "paintBytes", unfollowed := true, recurses := true, apart := false }
def PaintBytesSaid : Prop := paintBytesRow.holds Tryz.pinned (OpenSpec.ofChange paintBytesSpec)

/-- ITS FALSE NEIGHBOUR: 'it returns false'. Refute it at one input. -/
def paintBytesWrong : ChangeSpec := { name := "paintBytes", fn := fun _ => fun
  | [d1, d2, d3, d4] => { results := [.lit (.bool false)], args := [d1, d2, d3, d4] }
  | _ => none }
def PaintBytesWrongFalsely : Prop := paintBytesRow.holds Tryz.pinned (OpenSpec.ofChange paintBytesWrong)

/-- 'viewportlaw28.PaintFew': WHATEVER THE INPUT: true; the input reads as it did. -/
def paintFewSpec : ChangeSpec := { name := "paintFew", fn := fun _ => fun
  | [d1, d2, d3] => { results := [.lit (.bool true)], args := [d1, d2, d3] }
  | _ => none }
def paintFewRow : OpenClaim := { program := "ythpmncdfaggkiaagreat", sum := "31628a4c10cdbfa4ae6bb8f9b499edf3159724bf516c49da730b2379c2f1b230", func := "viewport/viewportlaw28.PaintFew", spec := "paintFew", unfollowed := true, recurses := true, apart := false }
def PaintFewSaid : Prop := paintFewRow.holds Tryz.pinned (OpenSpec.ofChange paintFewSpec)

/-- ITS FALSE NEIGHBOUR: 'it returns false'. Refute it at one input. -/
def paintFewWrong : ChangeSpec := { name := "paintFew", fn := fun _ => fun
  | [d1, d2, d3] => { results := [.lit (.bool false)], args := [d1, d2, d3] }
  | _ => none }
def PaintFewWrongFalsely : Prop := paintFewRow.holds Tryz.pinned (OpenSpec.ofChange paintFewWrong)

/-- 'viewportlaw28.PaintParts': WHATEVER THE INPUT: true; the input reads as it did. -/
def paintPartsSpec : ChangeSpec := { name := "paintParts", fn := fun _ => fun
  | [d1, d2, d3, d4, d5, d6] => { results := [.lit (.bool true)], args := [d1, d2, d3, d4, d5, d6] }
  | _ => none }
def paintPartsRow : OpenClaim := { program := "ythpmncdfaggkiaagreat", sum := "31628a4c10cdbfa4ae6bb8f9b499edf3159724bf516c49da730b2379c2f1b230", func := "viewport/viewportlaw28.PaintParts", spec := "paintParts", unfollowed := true, recurses := true, apart := false }
def PaintPartsSaid : Prop := paintPartsRow.holds Tryz.pinned (OpenSpec.ofChange paintPartsSpec)

/-- ITS FALSE NEIGHBOUR: 'it returns false'. Refute it at one input. -/
def paintPartsWrong : ChangeSpec := { name := "paintParts", fn := fun _ => fun
  | [d1, d2, d3, d4, d5, d6] => { results := [.lit (.bool false)], args := [d1, d2, d3, d4, d5, d6] }
  | _ => none }
def PaintPartsWrongFalsely : Prop := paintPartsRow.holds Tryz.pinned (OpenSpec.ofChange paintPartsWrong)

/- THE SECOND FORM. 'bulk': how many values and letters a reading holds, each counted each time it is reached (what is shared counts as often as it is met; a slice's spare places count too). A statement '..UptoSaid' is the law's where the arguments, and the package variables that the reading takes, are together of bulk at most 1048576: NARROWER than '..Said'. Prove '..Said' where nothing that the law and all that it calls make is longer than what came in: it says more and counts as full. Else prove '..UptoSaid'. A law counts once. -/
mutual
def uptoBulk {H : Type} : DataW H → Nat
  | .lit (.string bytes) => bytes.length + 1
  | .lit _ => 1
  | .nil => 1
  | .ptr d => uptoBulk d + 1
  | .slice elems spare => uptoBulkAll elems + uptoBulkAll spare + 1
  | .agg parts => uptoBulkAll parts + 1
  | .iface _ d => uptoBulk d + 1
  | .map entries => uptoBulkEntries entries + 1
  | .held _ => 1
def uptoBulkAll {H : Type} : List (DataW H) → Nat
  | [] => 0
  | d :: r => uptoBulk d + uptoBulkAll r
def uptoBulkEntries {H : Type} : List (Lit × DataW H) → Nat
  | [] => 0
  | x :: r => uptoBulkEntry x + uptoBulkEntries r
def uptoBulkEntry {H : Type} : Lit × DataW H → Nat
  | (.string bytes, d) => bytes.length + uptoBulk d + 1
  | (_, d) => uptoBulk d + 1
 end
def uptoSmall : (H : Type) → List (DataW H) → Bool := fun _ ds => decide (uptoBulkAll ds ≤ 1048576)
def OpenSpec.upto (s : _root_.Go.ChangeSpec) : _root_.Go.OpenSpec := { _root_.Go.OpenSpec.ofChange s with cond := some uptoSmall }

/-- 'viewportlaw25.TargetHolds', WHERE WHAT IT READS IS OF BULK AT MOST 1048576: true; the input reads as it did. -/
def targetHoldsUptoRow : OpenClaim := { program := "ythpmncdfaggkiaagreat", sum := "31628a4c10cdbfa4ae6bb8f9b499edf3159724bf516c49da730b2379c2f1b230", func := "viewport/viewportlaw25.TargetHolds", spec := "targetHolds", unfollowed := true, recurses := true, apart := false, narrowed := true }
def TargetHoldsUptoSaid : Prop := targetHoldsUptoRow.holds Tryz.pinned (OpenSpec.upto targetHoldsSpec)

/-- 'viewportlaw25.TargetUp', WHERE WHAT IT READS IS OF BULK AT MOST 1048576: true; the input reads as it did. -/
def targetUpUptoRow : OpenClaim := { program := "ythpmncdfaggkiaagreat", sum := "31628a4c10cdbfa4ae6bb8f9b499edf3159724bf516c49da730b2379c2f1b230", func := "viewport/viewportlaw25.TargetUp", spec := "targetUp", unfollowed := true, recurses := true, apart := false, narrowed := true }
def TargetUpUptoSaid : Prop := targetUpUptoRow.holds Tryz.pinned (OpenSpec.upto targetUpSpec)

/-- 'viewportlaw26.StylesNames', WHERE WHAT IT READS IS OF BULK AT MOST 1048576: true; the input reads as it did. -/
def stylesNamesUptoRow : OpenClaim := { program := "ythpmncdfaggkiaagreat", sum := "31628a4c10cdbfa4ae6bb8f9b499edf3159724bf516c49da730b2379c2f1b230", func := "viewport/viewportlaw26.StylesNames", spec := "stylesNames", unfollowed := true, recurses := true, apart := false, narrowed := true }
def StylesNamesUptoSaid : Prop := stylesNamesUptoRow.holds Tryz.pinned (OpenSpec.upto stylesNamesSpec)

/-- 'viewportlaw25.TargetNames', WHERE WHAT IT READS IS OF BULK AT MOST 1048576: true; the input reads as it did. -/
def targetNamesUptoRow : OpenClaim := { program := "ythpmncdfaggkiaagreat", sum := "31628a4c10cdbfa4ae6bb8f9b499edf3159724bf516c49da730b2379c2f1b230", func := "viewport/viewportlaw25.TargetNames", spec := "targetNames", unfollowed := true, recurses := true, apart := false, narrowed := true }
def TargetNamesUptoSaid : Prop := targetNamesUptoRow.holds Tryz.pinned (OpenSpec.upto targetNamesSpec)

/-- 'viewportlaw25.TargetCalls', WHERE WHAT IT READS IS OF BULK AT MOST 1048576: true; the input reads as it did. -/
def targetCallsUptoRow : OpenClaim := { program := "ythpmncdfaggkiaagreat", sum := "31628a4c10cdbfa4ae6bb8f9b499edf3159724bf516c49da730b2379c2f1b230", func := "viewport/viewportlaw25.TargetCalls", spec := "targetCalls", unfollowed := true, recurses := true, apart := false, narrowed := true }
def TargetCallsUptoSaid : Prop := targetCallsUptoRow.holds Tryz.pinned (OpenSpec.upto targetCallsSpec)

/-- 'viewportlaw28.PaintBytes', WHERE WHAT IT READS IS OF BULK AT MOST 1048576: true; the input reads as it did. -/
def paintBytesUptoRow : OpenClaim := { program := "ythpmncdfaggkiaagreat", sum := "31628a4c10cdbfa4ae6bb8f9b499edf3159724bf516c49da730b2379c2f1b230", func := "viewport/viewportlaw28.PaintBytes", spec := "paintBytes", unfollowed := true, recurses := true, apart := false, narrowed := true }
def PaintBytesUptoSaid : Prop := paintBytesUptoRow.holds Tryz.pinned (OpenSpec.upto paintBytesSpec)

/-- 'viewportlaw28.PaintFew', WHERE WHAT IT READS IS OF BULK AT MOST 1048576: true; the input reads as it did. -/
def paintFewUptoRow : OpenClaim := { program := "ythpmncdfaggkiaagreat", sum := "31628a4c10cdbfa4ae6bb8f9b499edf3159724bf516c49da730b2379c2f1b230", func := "viewport/viewportlaw28.PaintFew", spec := "paintFew", unfollowed := true, recurses := true, apart := false, narrowed := true }
def PaintFewUptoSaid : Prop := paintFewUptoRow.holds Tryz.pinned (OpenSpec.upto paintFewSpec)

/-- 'viewportlaw28.PaintParts', WHERE WHAT IT READS IS OF BULK AT MOST 1048576: true; the input reads as it did. -/
def paintPartsUptoRow : OpenClaim := { program := "ythpmncdfaggkiaagreat", sum := "31628a4c10cdbfa4ae6bb8f9b499edf3159724bf516c49da730b2379c2f1b230", func := "viewport/viewportlaw28.PaintParts", spec := "paintParts", unfollowed := true, recurses := true, apart := false, narrowed := true }
def PaintPartsUptoSaid : Prop := paintPartsUptoRow.holds Tryz.pinned (OpenSpec.upto paintPartsSpec)

end Rows
end Go.Proofs.YthpmncdfaggkiaaGreat
