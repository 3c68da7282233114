/-
  No cell of these rows narrows 'for every input' (looked for: loops, veiled, ifaces, maps, wideKeys, modest, calm, conditions, laid).
  DERIVED. THE GIVEN ROWS OF THIS SEAT. 12 by the template 'for every input the law returns true; each argument reads behind the call as it read before'; 0 by the template 'total and deterministic' (their statements: YticpdlaiindlfaaTotals.lean).
  GIVEN WITH THE SEED: the statements are not yours to turn. If you find one false, say at which input.
  Laid BY PROGRAM, IN A SANDBOX (cutbox-rows.mjs): the forced cells as the released guide's own fill.sh prints them over the translation ef66f448ab5d56cb… (all of the seat's roots in one cut). By AI agents, Wed Nov 11 2026. No macro, syntax, notation, axiom, sorry.
-/
import Derived.Test.YticpdlaiindlfaaChecked
import GoSem.Claim
import GoSem.ClaimJoined
import GoSem.ClaimMapViews
import Derived.JoinedTies
import Derived.KernelRfl
namespace Go.Proofs.Yticpdlaiindlfaa
/- THE CELL 'sum', in the pinned program and in every row, IS THE sha256 OF THE DUMP (.gsa) THAT YticpdlaiindlfaaProg.lean LOADS. Nothing in Lean hashes anything: it is a label: what it is worth is what the hold of that sum in a sandbox is worth. -/
noncomputable def Try.pinned : Pinned := { name := "yticpdlaiindlfaa", sum := "ef66f448ab5d56cb461ced3bba7061f0c33af9ae367fbfd8e90b7849350a74dc", checked := Try.checked }
namespace Rows
def none {H : Type} : Left H := { results := [], args := [] }

/-- 'wayfinderlaw03.VecFixed': WHATEVER THE INPUT: true; the input reads as it did. -/
def vecFixedSpec : ChangeSpec := { name := "vecFixed", fn := fun _ => fun
  | [d1, d2] => { results := [.lit (.bool true)], args := [d1, d2] }
  | _ => none }
def vecFixedRow : OpenClaim := { program := "yticpdlaiindlfaa", sum := "ef66f448ab5d56cb461ced3bba7061f0c33af9ae367fbfd8e90b7849350a74dc", func := "wayfinder/wayfinderlaw03.VecFixed", spec := "vecFixed", inPlace := ["math.Float64frombits", "math.RoundToEven"], unfollowed := true, recurses := true, apart := false }
def VecFixedSaid : Prop := vecFixedRow.holds Try.pinned (OpenSpec.ofChange vecFixedSpec)

/-- ITS FALSE NEIGHBOUR: 'it returns false'. Refute it at one input. -/
def vecFixedWrong : ChangeSpec := { name := "vecFixed", fn := fun _ => fun
  | [d1, d2] => { results := [.lit (.bool false)], args := [d1, d2] }
  | _ => none }
def VecFixedWrongFalsely : Prop := vecFixedRow.holds Try.pinned (OpenSpec.ofChange vecFixedWrong)

/-- 'wayfinderlaw03.VecWhole': WHATEVER THE INPUT: true; the input reads as it did. -/
def vecWholeSpec : ChangeSpec := { name := "vecWhole", fn := fun _ => fun
  | [d1, d2, d3] => { results := [.lit (.bool true)], args := [d1, d2, d3] }
  | _ => none }
def vecWholeRow : OpenClaim := { program := "yticpdlaiindlfaa", sum := "ef66f448ab5d56cb461ced3bba7061f0c33af9ae367fbfd8e90b7849350a74dc", func := "wayfinder/wayfinderlaw03.VecWhole", spec := "vecWhole", inPlace := ["math.Float64frombits", "math.RoundToEven"], unfollowed := true, recurses := true, apart := false }
def VecWholeSaid : Prop := vecWholeRow.holds Try.pinned (OpenSpec.ofChange vecWholeSpec)

/-- ITS FALSE NEIGHBOUR: 'it returns false'. Refute it at one input. -/
def vecWholeWrong : ChangeSpec := { name := "vecWhole", fn := fun _ => fun
  | [d1, d2, d3] => { results := [.lit (.bool false)], args := [d1, d2, d3] }
  | _ => none }
def VecWholeWrongFalsely : Prop := vecWholeRow.holds Try.pinned (OpenSpec.ofChange vecWholeWrong)

/-- 'wayfinderlaw03.VecMetric': WHATEVER THE INPUT: true; the input reads as it did. -/
def vecMetricSpec : ChangeSpec := { name := "vecMetric", fn := fun _ => fun
  | [d1, d2, d3] => { results := [.lit (.bool true)], args := [d1, d2, d3] }
  | _ => none }
def vecMetricRow : OpenClaim := { program := "yticpdlaiindlfaa", sum := "ef66f448ab5d56cb461ced3bba7061f0c33af9ae367fbfd8e90b7849350a74dc", func := "wayfinder/wayfinderlaw03.VecMetric", spec := "vecMetric", inPlace := ["math.Float64frombits", "math.RoundToEven"], unfollowed := true, recurses := true, apart := false }
def VecMetricSaid : Prop := vecMetricRow.holds Try.pinned (OpenSpec.ofChange vecMetricSpec)

/-- ITS FALSE NEIGHBOUR: 'it returns false'. Refute it at one input. -/
def vecMetricWrong : ChangeSpec := { name := "vecMetric", fn := fun _ => fun
  | [d1, d2, d3] => { results := [.lit (.bool false)], args := [d1, d2, d3] }
  | _ => none }
def VecMetricWrongFalsely : Prop := vecMetricRow.holds Try.pinned (OpenSpec.ofChange vecMetricWrong)

/-- 'wayfinderlaw03.VecMoves': WHATEVER THE INPUT: true; the input reads as it did. -/
def vecMovesSpec : ChangeSpec := { name := "vecMoves", fn := fun _ => fun
  | [d1, d2, d3, d4] => { results := [.lit (.bool true)], args := [d1, d2, d3, d4] }
  | _ => none }
def vecMovesRow : OpenClaim := { program := "yticpdlaiindlfaa", sum := "ef66f448ab5d56cb461ced3bba7061f0c33af9ae367fbfd8e90b7849350a74dc", func := "wayfinder/wayfinderlaw03.VecMoves", spec := "vecMoves", inPlace := ["math.Float64frombits", "math.RoundToEven"], unfollowed := true, recurses := true, apart := false }
def VecMovesSaid : Prop := vecMovesRow.holds Try.pinned (OpenSpec.ofChange vecMovesSpec)

/-- ITS FALSE NEIGHBOUR: 'it returns false'. Refute it at one input. -/
def vecMovesWrong : ChangeSpec := { name := "vecMoves", fn := fun _ => fun
  | [d1, d2, d3, d4] => { results := [.lit (.bool false)], args := [d1, d2, d3, d4] }
  | _ => none }
def VecMovesWrongFalsely : Prop := vecMovesRow.holds Try.pinned (OpenSpec.ofChange vecMovesWrong)

/-- 'wayfinderlaw14.PartColumns': WHATEVER THE INPUT: true; the input reads as it did. -/
def partColumnsSpec : ChangeSpec := { name := "partColumns", fn := fun _ => fun
  | [d1, d2] => { results := [.lit (.bool true)], args := [d1, d2] }
  | _ => none }
def partColumnsRow : OpenClaim := { program := "yticpdlaiindlfaa", sum := "ef66f448ab5d56cb461ced3bba7061f0c33af9ae367fbfd8e90b7849350a74dc", func := "wayfinder/wayfinderlaw14.PartColumns", spec := "partColumns", unfollowed := true, recurses := true, apart := false }
def PartColumnsSaid : Prop := partColumnsRow.holds Try.pinned (OpenSpec.ofChange partColumnsSpec)

/-- ITS FALSE NEIGHBOUR: 'it returns false'. Refute it at one input. -/
def partColumnsWrong : ChangeSpec := { name := "partColumns", fn := fun _ => fun
  | [d1, d2] => { results := [.lit (.bool false)], args := [d1, d2] }
  | _ => none }
def PartColumnsWrongFalsely : Prop := partColumnsRow.holds Try.pinned (OpenSpec.ofChange partColumnsWrong)

/-- 'wayfinderlaw14.PartSums': WHATEVER THE INPUT: true; the input reads as it did. -/
def partSumsSpec : ChangeSpec := { name := "partSums", fn := fun _ => fun
  | [d1, d2, d3] => { results := [.lit (.bool true)], args := [d1, d2, d3] }
  | _ => none }
def partSumsRow : OpenClaim := { program := "yticpdlaiindlfaa", sum := "ef66f448ab5d56cb461ced3bba7061f0c33af9ae367fbfd8e90b7849350a74dc", func := "wayfinder/wayfinderlaw14.PartSums", spec := "partSums", unfollowed := true, recurses := true, apart := false }
def PartSumsSaid : Prop := partSumsRow.holds Try.pinned (OpenSpec.ofChange partSumsSpec)

/-- ITS FALSE NEIGHBOUR: 'it returns false'. Refute it at one input. -/
def partSumsWrong : ChangeSpec := { name := "partSums", fn := fun _ => fun
  | [d1, d2, d3] => { results := [.lit (.bool false)], args := [d1, d2, d3] }
  | _ => none }
def PartSumsWrongFalsely : Prop := partSumsRow.holds Try.pinned (OpenSpec.ofChange partSumsWrong)

/-- 'wayfinderlaw14.PartTwice': WHATEVER THE INPUT: true; the input reads as it did. -/
def partTwiceSpec : ChangeSpec := { name := "partTwice", fn := fun _ => fun
  | [d1, d2, d3] => { results := [.lit (.bool true)], args := [d1, d2, d3] }
  | _ => none }
def partTwiceRow : OpenClaim := { program := "yticpdlaiindlfaa", sum := "ef66f448ab5d56cb461ced3bba7061f0c33af9ae367fbfd8e90b7849350a74dc", func := "wayfinder/wayfinderlaw14.PartTwice", spec := "partTwice", unfollowed := true, recurses := true, apart := false }
def PartTwiceSaid : Prop := partTwiceRow.holds Try.pinned (OpenSpec.ofChange partTwiceSpec)

/-- ITS FALSE NEIGHBOUR: 'it returns false'. Refute it at one input. -/
def partTwiceWrong : ChangeSpec := { name := "partTwice", fn := fun _ => fun
  | [d1, d2, d3] => { results := [.lit (.bool false)], args := [d1, d2, d3] }
  | _ => none }
def PartTwiceWrongFalsely : Prop := partTwiceRow.holds Try.pinned (OpenSpec.ofChange partTwiceWrong)

/-- 'wayfinderlaw03.VecNames': WHATEVER THE INPUT: true; the input reads as it did. -/
def vecNamesSpec : ChangeSpec := { name := "vecNames", fn := fun _ => fun
  | [] => { results := [.lit (.bool true)], args := [] }
  | _ => none }
def vecNamesRow : OpenClaim := { program := "yticpdlaiindlfaa", sum := "ef66f448ab5d56cb461ced3bba7061f0c33af9ae367fbfd8e90b7849350a74dc", func := "wayfinder/wayfinderlaw03.VecNames", spec := "vecNames", inPlace := ["math.Float64frombits", "math.RoundToEven"], unfollowed := true, recurses := true, apart := false }
def VecNamesSaid : Prop := vecNamesRow.holds Try.pinned (OpenSpec.ofChange vecNamesSpec)

/-- ITS FALSE NEIGHBOUR: 'it returns false'. Refute it at one input. -/
def vecNamesWrong : ChangeSpec := { name := "vecNames", fn := fun _ => fun
  | [] => { results := [.lit (.bool false)], args := [] }
  | _ => none }
def VecNamesWrongFalsely : Prop := vecNamesRow.holds Try.pinned (OpenSpec.ofChange vecNamesWrong)

/-- 'wayfinderlaw03.VecSums': WHATEVER THE INPUT: true; the input reads as it did. -/
def vecSumsSpec : ChangeSpec := { name := "vecSums", fn := fun _ => fun
  | [d1, d2, d3] => { results := [.lit (.bool true)], args := [d1, d2, d3] }
  | _ => none }
def vecSumsRow : OpenClaim := { program := "yticpdlaiindlfaa", sum := "ef66f448ab5d56cb461ced3bba7061f0c33af9ae367fbfd8e90b7849350a74dc", func := "wayfinder/wayfinderlaw03.VecSums", spec := "vecSums", inPlace := ["math.Float64frombits", "math.RoundToEven"], unfollowed := true, recurses := true, apart := false }
def VecSumsSaid : Prop := vecSumsRow.holds Try.pinned (OpenSpec.ofChange vecSumsSpec)

/-- ITS FALSE NEIGHBOUR: 'it returns false'. Refute it at one input. -/
def vecSumsWrong : ChangeSpec := { name := "vecSums", fn := fun _ => fun
  | [d1, d2, d3] => { results := [.lit (.bool false)], args := [d1, d2, d3] }
  | _ => none }
def VecSumsWrongFalsely : Prop := vecSumsRow.holds Try.pinned (OpenSpec.ofChange vecSumsWrong)

/-- 'wayfinderlaw14.PartNames': WHATEVER THE INPUT: true; the input reads as it did. -/
def partNamesSpec : ChangeSpec := { name := "partNames", fn := fun _ => fun
  | [] => { results := [.lit (.bool true)], args := [] }
  | _ => none }
def partNamesRow : OpenClaim := { program := "yticpdlaiindlfaa", sum := "ef66f448ab5d56cb461ced3bba7061f0c33af9ae367fbfd8e90b7849350a74dc", func := "wayfinder/wayfinderlaw14.PartNames", spec := "partNames", unfollowed := true, recurses := true, apart := false }
def PartNamesSaid : Prop := partNamesRow.holds Try.pinned (OpenSpec.ofChange partNamesSpec)

/-- ITS FALSE NEIGHBOUR: 'it returns false'. Refute it at one input. -/
def partNamesWrong : ChangeSpec := { name := "partNames", fn := fun _ => fun
  | [] => { results := [.lit (.bool false)], args := [] }
  | _ => none }
def PartNamesWrongFalsely : Prop := partNamesRow.holds Try.pinned (OpenSpec.ofChange partNamesWrong)

/-- 'wayfinderlaw14.PartCalls': WHATEVER THE INPUT: true; the input reads as it did. -/
def partCallsSpec : ChangeSpec := { name := "partCalls", fn := fun _ => fun
  | [d1, d2, d3, d4, d5] => { results := [.lit (.bool true)], args := [d1, d2, d3, d4, d5] }
  | _ => none }
def partCallsRow : OpenClaim := { program := "yticpdlaiindlfaa", sum := "ef66f448ab5d56cb461ced3bba7061f0c33af9ae367fbfd8e90b7849350a74dc", func := "wayfinder/wayfinderlaw14.PartCalls", spec := "partCalls", unfollowed := true, recurses := true, apart := false }
def PartCallsSaid : Prop := partCallsRow.holds Try.pinned (OpenSpec.ofChange partCallsSpec)

/-- ITS FALSE NEIGHBOUR: 'it returns false'. Refute it at one input. -/
def partCallsWrong : ChangeSpec := { name := "partCalls", fn := fun _ => fun
  | [d1, d2, d3, d4, d5] => { results := [.lit (.bool false)], args := [d1, d2, d3, d4, d5] }
  | _ => none }
def PartCallsWrongFalsely : Prop := partCallsRow.holds Try.pinned (OpenSpec.ofChange partCallsWrong)

/-- 'wayfinderlaw03.VecCalls': WHATEVER THE INPUT: true; the input reads as it did. -/
def vecCallsSpec : ChangeSpec := { name := "vecCalls", fn := fun _ => fun
  | [d1, d2, d3, d4, d5] => { results := [.lit (.bool true)], args := [d1, d2, d3, d4, d5] }
  | _ => none }
def vecCallsRow : OpenClaim := { program := "yticpdlaiindlfaa", sum := "ef66f448ab5d56cb461ced3bba7061f0c33af9ae367fbfd8e90b7849350a74dc", func := "wayfinder/wayfinderlaw03.VecCalls", spec := "vecCalls", inPlace := ["math.Float64frombits", "math.RoundToEven"], unfollowed := true, recurses := true, apart := false }
def VecCallsSaid : Prop := vecCallsRow.holds Try.pinned (OpenSpec.ofChange vecCallsSpec)

/-- ITS FALSE NEIGHBOUR: 'it returns false'. Refute it at one input. -/
def vecCallsWrong : ChangeSpec := { name := "vecCalls", fn := fun _ => fun
  | [d1, d2, d3, d4, d5] => { results := [.lit (.bool false)], args := [d1, d2, d3, d4, d5] }
  | _ => none }
def VecCallsWrongFalsely : Prop := vecCallsRow.holds Try.pinned (OpenSpec.ofChange vecCallsWrong)

/- THE SECOND FORM. 'bulk': how many values and letters a reading holds, each counted each time it is reached (what is shared counts as often as it is met; a slice's spare places count too). A statement '..UptoSaid' is the law's where the arguments, and the package variables that the reading takes, are together of bulk at most 1048576: NARROWER than '..Said'. Prove '..Said' where nothing that the law and all that it calls make is longer than what came in: it says more and counts as full. Else prove '..UptoSaid'. A law counts once. -/
mutual
def uptoBulk {H : Type} : DataW H → Nat
  | .lit (.string bytes) => bytes.length + 1
  | .lit _ => 1
  | .nil => 1
  | .ptr d => uptoBulk d + 1
  | .slice elems spare => uptoBulkAll elems + uptoBulkAll spare + 1
  | .agg parts => uptoBulkAll parts + 1
  | .iface _ d => uptoBulk d + 1
  | .map entries => uptoBulkEntries entries + 1
  | .held _ => 1
def uptoBulkAll {H : Type} : List (DataW H) → Nat
  | [] => 0
  | d :: r => uptoBulk d + uptoBulkAll r
def uptoBulkEntries {H : Type} : List (Lit × DataW H) → Nat
  | [] => 0
  | x :: r => uptoBulkEntry x + uptoBulkEntries r
def uptoBulkEntry {H : Type} : Lit × DataW H → Nat
  | (.string bytes, d) => bytes.length + uptoBulk d + 1
  | (_, d) => uptoBulk d + 1
 end
def uptoSmall : (H : Type) → List (DataW H) → Bool := fun _ ds => decide (uptoBulkAll ds ≤ 1048576)
def OpenSpec.upto (s : _root_.Go.ChangeSpec) : _root_.Go.OpenSpec := { _root_.Go.OpenSpec.ofChange s with cond := some uptoSmall }

/-- 'wayfinderlaw03.VecFixed', WHERE WHAT IT READS IS OF BULK AT MOST 1048576: true; the input reads as it did. -/
def vecFixedUptoRow : OpenClaim := { program := "yticpdlaiindlfaa", sum := "ef66f448ab5d56cb461ced3bba7061f0c33af9ae367fbfd8e90b7849350a74dc", func := "wayfinder/wayfinderlaw03.VecFixed", spec := "vecFixed", inPlace := ["math.Float64frombits", "math.RoundToEven"], unfollowed := true, recurses := true, apart := false, narrowed := true }
def VecFixedUptoSaid : Prop := vecFixedUptoRow.holds Try.pinned (OpenSpec.upto vecFixedSpec)

/-- 'wayfinderlaw03.VecWhole', WHERE WHAT IT READS IS OF BULK AT MOST 1048576: true; the input reads as it did. -/
def vecWholeUptoRow : OpenClaim := { program := "yticpdlaiindlfaa", sum := "ef66f448ab5d56cb461ced3bba7061f0c33af9ae367fbfd8e90b7849350a74dc", func := "wayfinder/wayfinderlaw03.VecWhole", spec := "vecWhole", inPlace := ["math.Float64frombits", "math.RoundToEven"], unfollowed := true, recurses := true, apart := false, narrowed := true }
def VecWholeUptoSaid : Prop := vecWholeUptoRow.holds Try.pinned (OpenSpec.upto vecWholeSpec)

/-- 'wayfinderlaw03.VecMetric', WHERE WHAT IT READS IS OF BULK AT MOST 1048576: true; the input reads as it did. -/
def vecMetricUptoRow : OpenClaim := { program := "yticpdlaiindlfaa", sum := "ef66f448ab5d56cb461ced3bba7061f0c33af9ae367fbfd8e90b7849350a74dc", func := "wayfinder/wayfinderlaw03.VecMetric", spec := "vecMetric", inPlace := ["math.Float64frombits", "math.RoundToEven"], unfollowed := true, recurses := true, apart := false, narrowed := true }
def VecMetricUptoSaid : Prop := vecMetricUptoRow.holds Try.pinned (OpenSpec.upto vecMetricSpec)

/-- 'wayfinderlaw03.VecMoves', WHERE WHAT IT READS IS OF BULK AT MOST 1048576: true; the input reads as it did. -/
def vecMovesUptoRow : OpenClaim := { program := "yticpdlaiindlfaa", sum := "ef66f448ab5d56cb461ced3bba7061f0c33af9ae367fbfd8e90b7849350a74dc", func := "wayfinder/wayfinderlaw03.VecMoves", spec := "vecMoves", inPlace := ["math.Float64frombits", "math.RoundToEven"], unfollowed := true, recurses := true, apart := false, narrowed := true }
def VecMovesUptoSaid : Prop := vecMovesUptoRow.holds Try.pinned (OpenSpec.upto vecMovesSpec)

/-- 'wayfinderlaw14.PartColumns', WHERE WHAT IT READS IS OF BULK AT MOST 1048576: true; the input reads as it did. -/
def partColumnsUptoRow : OpenClaim := { program := "yticpdlaiindlfaa", sum := "ef66f448ab5d56cb461ced3bba7061f0c33af9ae367fbfd8e90b7849350a74dc", func := "wayfinder/wayfinderlaw14.PartColumns", spec := "partColumns", unfollowed := true, recurses := true, apart := false, narrowed := true }
def PartColumnsUptoSaid : Prop := partColumnsUptoRow.holds Try.pinned (OpenSpec.upto partColumnsSpec)

/-- 'wayfinderlaw14.PartSums', WHERE WHAT IT READS IS OF BULK AT MOST 1048576: true; the input reads as it did. -/
def partSumsUptoRow : OpenClaim := { program := "yticpdlaiindlfaa", sum := "ef66f448ab5d56cb461ced3bba7061f0c33af9ae367fbfd8e90b7849350a74dc", func := "wayfinder/wayfinderlaw14.PartSums", spec := "partSums", unfollowed := true, recurses := true, apart := false, narrowed := true }
def PartSumsUptoSaid : Prop := partSumsUptoRow.holds Try.pinned (OpenSpec.upto partSumsSpec)

/-- 'wayfinderlaw14.PartTwice', WHERE WHAT IT READS IS OF BULK AT MOST 1048576: true; the input reads as it did. -/
def partTwiceUptoRow : OpenClaim := { program := "yticpdlaiindlfaa", sum := "ef66f448ab5d56cb461ced3bba7061f0c33af9ae367fbfd8e90b7849350a74dc", func := "wayfinder/wayfinderlaw14.PartTwice", spec := "partTwice", unfollowed := true, recurses := true, apart := false, narrowed := true }
def PartTwiceUptoSaid : Prop := partTwiceUptoRow.holds Try.pinned (OpenSpec.upto partTwiceSpec)

/-- 'wayfinderlaw03.VecNames', WHERE WHAT IT READS IS OF BULK AT MOST 1048576: true; the input reads as it did. -/
def vecNamesUptoRow : OpenClaim := { program := "yticpdlaiindlfaa", sum := "ef66f448ab5d56cb461ced3bba7061f0c33af9ae367fbfd8e90b7849350a74dc", func := "wayfinder/wayfinderlaw03.VecNames", spec := "vecNames", inPlace := ["math.Float64frombits", "math.RoundToEven"], unfollowed := true, recurses := true, apart := false, narrowed := true }
def VecNamesUptoSaid : Prop := vecNamesUptoRow.holds Try.pinned (OpenSpec.upto vecNamesSpec)

/-- 'wayfinderlaw03.VecSums', WHERE WHAT IT READS IS OF BULK AT MOST 1048576: true; the input reads as it did. -/
def vecSumsUptoRow : OpenClaim := { program := "yticpdlaiindlfaa", sum := "ef66f448ab5d56cb461ced3bba7061f0c33af9ae367fbfd8e90b7849350a74dc", func := "wayfinder/wayfinderlaw03.VecSums", spec := "vecSums", inPlace := ["math.Float64frombits", "math.RoundToEven"], unfollowed := true, recurses := true, apart := false, narrowed := true }
def VecSumsUptoSaid : Prop := vecSumsUptoRow.holds Try.pinned (OpenSpec.upto vecSumsSpec)

/-- 'wayfinderlaw14.PartNames', WHERE WHAT IT READS IS OF BULK AT MOST 1048576: true; the input reads as it did. -/
def partNamesUptoRow : OpenClaim := { program := "yticpdlaiindlfaa", sum := "ef66f448ab5d56cb461ced3bba7061f0c33af9ae367fbfd8e90b7849350a74dc", func := "wayfinder/wayfinderlaw14.PartNames", spec := "partNames", unfollowed := true, recurses := true, apart := false, narrowed := true }
def PartNamesUptoSaid : Prop := partNamesUptoRow.holds Try.pinned (OpenSpec.upto partNamesSpec)

/-- 'wayfinderlaw14.PartCalls', WHERE WHAT IT READS IS OF BULK AT MOST 1048576: true; the input reads as it did. -/
def partCallsUptoRow : OpenClaim := { program := "yticpdlaiindlfaa", sum := "ef66f448ab5d56cb461ced3bba7061f0c33af9ae367fbfd8e90b7849350a74dc", func := "wayfinder/wayfinderlaw14.PartCalls", spec := "partCalls", unfollowed := true, recurses := true, apart := false, narrowed := true }
def PartCallsUptoSaid : Prop := partCallsUptoRow.holds Try.pinned (OpenSpec.upto partCallsSpec)

/-- 'wayfinderlaw03.VecCalls', WHERE WHAT IT READS IS OF BULK AT MOST 1048576: true; the input reads as it did. -/
def vecCallsUptoRow : OpenClaim := { program := "yticpdlaiindlfaa", sum := "ef66f448ab5d56cb461ced3bba7061f0c33af9ae367fbfd8e90b7849350a74dc", func := "wayfinder/wayfinderlaw03.VecCalls", spec := "vecCalls", inPlace := ["math.Float64frombits", "math.RoundToEven"], unfollowed := true, recurses := true, apart := false, narrowed := true }
def VecCallsUptoSaid : Prop := vecCallsUptoRow.holds Try.pinned (OpenSpec.upto vecCallsSpec)

end Rows
end Go.Proofs.Yticpdlaiindlfaa
