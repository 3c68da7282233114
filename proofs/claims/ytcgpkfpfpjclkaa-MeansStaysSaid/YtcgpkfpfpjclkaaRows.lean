/-
  No cell of these rows narrows 'for every input' (looked for: loops, veiled, ifaces, maps, wideKeys, modest, calm, conditions, laid).
  DERIVED. THE GIVEN ROWS OF THIS SEAT. 4 by the template 'for every input the law returns true; each argument reads behind the call as it read before'; 0 by the template 'total and deterministic' (their statements: YtcgpkfpfpjclkaaTotals.lean).
  GIVEN WITH THE SEED: the statements are not yours to turn. If you find one false, say at which input.
  Laid BY PROGRAM, IN A SANDBOX (cutbox-rows.mjs): the forced cells as the released guide's own fill.sh prints them over the translation 6ad8da2848e7d380… (all of the seat's roots in one cut). By AI agents, Wed Nov 11 2026. No macro, syntax, notation, axiom, sorry.
-/
import Derived.Test.YtcgpkfpfpjclkaaChecked
import GoSem.Claim
import GoSem.ClaimJoined
import GoSem.ClaimMapViews
import Derived.JoinedTies
import Derived.KernelRfl
namespace Go.Proofs.Ytcgpkfpfpjclkaa
/- THE CELL 'sum', in the pinned program and in every row, IS THE sha256 OF THE DUMP (.gsa) THAT YtcgpkfpfpjclkaaProg.lean LOADS. Nothing in Lean hashes anything: it is a label: what it is worth is what the hold of that sum in a sandbox is worth. -/
noncomputable def Try.pinned : Pinned := { name := "ytcgpkfpfpjclkaa", sum := "6ad8da2848e7d38074f67d93401c60a1af64726851b3b3e5c10437ec02ae0850", checked := Try.checked }
namespace Rows
def none {H : Type} : Left H := { results := [], args := [] }

/-- 'wayfinderlaw12.MeansFalls': WHATEVER THE INPUT: true; the input reads as it did. -/
def meansFallsSpec : ChangeSpec := { name := "meansFalls", fn := fun _ => fun
  | [d1, d2, d3] => { results := [.lit (.bool true)], args := [d1, d2, d3] }
  | _ => none }
def meansFallsRow : OpenClaim := { program := "ytcgpkfpfpjclkaa", sum := "6ad8da2848e7d38074f67d93401c60a1af64726851b3b3e5c10437ec02ae0850", func := "wayfinder/wayfinderlaw12.MeansFalls", spec := "meansFalls", unfollowed := true, recurses := true, apart := false }
def MeansFallsSaid : Prop := meansFallsRow.holds Try.pinned (OpenSpec.ofChange meansFallsSpec)

/-- ITS FALSE NEIGHBOUR: 'it returns false'. Refute it at one input. -/
def meansFallsWrong : ChangeSpec := { name := "meansFalls", fn := fun _ => fun
  | [d1, d2, d3] => { results := [.lit (.bool false)], args := [d1, d2, d3] }
  | _ => none }
def MeansFallsWrongFalsely : Prop := meansFallsRow.holds Try.pinned (OpenSpec.ofChange meansFallsWrong)

/-- 'wayfinderlaw12.MeansStays': WHATEVER THE INPUT: true; the input reads as it did. -/
def meansStaysSpec : ChangeSpec := { name := "meansStays", fn := fun _ => fun
  | [d1, d2, d3, d4] => { results := [.lit (.bool true)], args := [d1, d2, d3, d4] }
  | _ => none }
def meansStaysRow : OpenClaim := { program := "ytcgpkfpfpjclkaa", sum := "6ad8da2848e7d38074f67d93401c60a1af64726851b3b3e5c10437ec02ae0850", func := "wayfinder/wayfinderlaw12.MeansStays", spec := "meansStays", unfollowed := true, recurses := true, apart := false }
def MeansStaysSaid : Prop := meansStaysRow.holds Try.pinned (OpenSpec.ofChange meansStaysSpec)

/-- ITS FALSE NEIGHBOUR: 'it returns false'. Refute it at one input. -/
def meansStaysWrong : ChangeSpec := { name := "meansStays", fn := fun _ => fun
  | [d1, d2, d3, d4] => { results := [.lit (.bool false)], args := [d1, d2, d3, d4] }
  | _ => none }
def MeansStaysWrongFalsely : Prop := meansStaysRow.holds Try.pinned (OpenSpec.ofChange meansStaysWrong)

/-- 'wayfinderlaw12.MeansParts': WHATEVER THE INPUT: true; the input reads as it did. -/
def meansPartsSpec : ChangeSpec := { name := "meansParts", fn := fun _ => fun
  | [d1, d2, d3, d4] => { results := [.lit (.bool true)], args := [d1, d2, d3, d4] }
  | _ => none }
def meansPartsRow : OpenClaim := { program := "ytcgpkfpfpjclkaa", sum := "6ad8da2848e7d38074f67d93401c60a1af64726851b3b3e5c10437ec02ae0850", func := "wayfinder/wayfinderlaw12.MeansParts", spec := "meansParts", unfollowed := true, recurses := true, apart := false }
def MeansPartsSaid : Prop := meansPartsRow.holds Try.pinned (OpenSpec.ofChange meansPartsSpec)

/-- ITS FALSE NEIGHBOUR: 'it returns false'. Refute it at one input. -/
def meansPartsWrong : ChangeSpec := { name := "meansParts", fn := fun _ => fun
  | [d1, d2, d3, d4] => { results := [.lit (.bool false)], args := [d1, d2, d3, d4] }
  | _ => none }
def MeansPartsWrongFalsely : Prop := meansPartsRow.holds Try.pinned (OpenSpec.ofChange meansPartsWrong)

/-- 'wayfinderlaw12.MeansCalls': WHATEVER THE INPUT: true; the input reads as it did. -/
def meansCallsSpec : ChangeSpec := { name := "meansCalls", fn := fun _ => fun
  | [d1, d2, d3, d4] => { results := [.lit (.bool true)], args := [d1, d2, d3, d4] }
  | _ => none }
def meansCallsRow : OpenClaim := { program := "ytcgpkfpfpjclkaa", sum := "6ad8da2848e7d38074f67d93401c60a1af64726851b3b3e5c10437ec02ae0850", func := "wayfinder/wayfinderlaw12.MeansCalls", spec := "meansCalls", unfollowed := true, recurses := true, apart := false }
def MeansCallsSaid : Prop := meansCallsRow.holds Try.pinned (OpenSpec.ofChange meansCallsSpec)

/-- ITS FALSE NEIGHBOUR: 'it returns false'. Refute it at one input. -/
def meansCallsWrong : ChangeSpec := { name := "meansCalls", fn := fun _ => fun
  | [d1, d2, d3, d4] => { results := [.lit (.bool false)], args := [d1, d2, d3, d4] }
  | _ => none }
def MeansCallsWrongFalsely : Prop := meansCallsRow.holds Try.pinned (OpenSpec.ofChange meansCallsWrong)

/- THE SECOND FORM. 'bulk': how many values and letters a reading holds, each counted each time it is reached (what is shared counts as often as it is met; a slice's spare places count too). A statement '..UptoSaid' is the law's where the arguments, and the package variables that the reading takes, are together of bulk at most 1048576: NARROWER than '..Said'. Prove '..Said' where nothing that the law and all that it calls make is longer than what came in: it says more and counts as full. Else prove '..UptoSaid'. A law counts once. -/
mutual
def uptoBulk {H : Type} : DataW H → Nat
  | .lit (.string bytes) => bytes.length + 1
  | .lit _ => 1
  | .nil => 1
  | .ptr d => uptoBulk d + 1
  | .slice elems spare => uptoBulkAll elems + uptoBulkAll spare + 1
  | .agg parts => uptoBulkAll parts + 1
  | .iface _ d => uptoBulk d + 1
  | .map entries => uptoBulkEntries entries + 1
  | .held _ => 1
def uptoBulkAll {H : Type} : List (DataW H) → Nat
  | [] => 0
  | d :: r => uptoBulk d + uptoBulkAll r
def uptoBulkEntries {H : Type} : List (Lit × DataW H) → Nat
  | [] => 0
  | x :: r => uptoBulkEntry x + uptoBulkEntries r
def uptoBulkEntry {H : Type} : Lit × DataW H → Nat
  | (.string bytes, d) => bytes.length + uptoBulk d + 1
  | (_, d) => uptoBulk d + 1
 end
def uptoSmall : (H : Type) → List (DataW H) → Bool := fun _ ds => decide (uptoBulkAll ds ≤ 1048576)
def OpenSpec.upto (s : _root_.Go.ChangeSpec) : _root_.Go.OpenSpec := { _root_.Go.OpenSpec.ofChange s with cond := some uptoSmall }

/-- 'wayfinderlaw12.MeansFalls', WHERE WHAT IT READS IS OF BULK AT MOST 1048576: true; the input reads as it did. -/
def meansFallsUptoRow : OpenClaim := { program := "ytcgpkfpfpjclkaa", sum := "6ad8da2848e7d38074f67d93401c60a1af64726851b3b3e5c10437ec02ae0850", func := "wayfinder/wayfinderlaw12.MeansFalls", spec := "meansFalls", unfollowed := true, recurses := true, apart := false, narrowed := true }
def MeansFallsUptoSaid : Prop := meansFallsUptoRow.holds Try.pinned (OpenSpec.upto meansFallsSpec)

/-- 'wayfinderlaw12.MeansStays', WHERE WHAT IT READS IS OF BULK AT MOST 1048576: true; the input reads as it did. -/
def meansStaysUptoRow : OpenClaim := { program := "ytcgpkfpfpjclkaa", sum := "6ad8da2848e7d38074f67d93401c60a1af64726851b3b3e5c10437ec02ae0850", func := "wayfinder/wayfinderlaw12.MeansStays", spec := "meansStays", unfollowed := true, recurses := true, apart := false, narrowed := true }
def MeansStaysUptoSaid : Prop := meansStaysUptoRow.holds Try.pinned (OpenSpec.upto meansStaysSpec)

/-- 'wayfinderlaw12.MeansParts', WHERE WHAT IT READS IS OF BULK AT MOST 1048576: true; the input reads as it did. -/
def meansPartsUptoRow : OpenClaim := { program := "ytcgpkfpfpjclkaa", sum := "6ad8da2848e7d38074f67d93401c60a1af64726851b3b3e5c10437ec02ae0850", func := "wayfinder/wayfinderlaw12.MeansParts", spec := "meansParts", unfollowed := true, recurses := true, apart := false, narrowed := true }
def MeansPartsUptoSaid : Prop := meansPartsUptoRow.holds Try.pinned (OpenSpec.upto meansPartsSpec)

/-- 'wayfinderlaw12.MeansCalls', WHERE WHAT IT READS IS OF BULK AT MOST 1048576: true; the input reads as it did. -/
def meansCallsUptoRow : OpenClaim := { program := "ytcgpkfpfpjclkaa", sum := "6ad8da2848e7d38074f67d93401c60a1af64726851b3b3e5c10437ec02ae0850", func := "wayfinder/wayfinderlaw12.MeansCalls", spec := "meansCalls", unfollowed := true, recurses := true, apart := false, narrowed := true }
def MeansCallsUptoSaid : Prop := meansCallsUptoRow.holds Try.pinned (OpenSpec.upto meansCallsSpec)

end Rows
end Go.Proofs.Ytcgpkfpfpjclkaa
