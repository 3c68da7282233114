/-
  No cell of these rows narrows 'for every input' (looked for: loops, veiled, ifaces, maps, wideKeys, modest, calm, conditions, laid).
  DERIVED. THE GIVEN ROWS OF THIS SEAT. 10 by the template 'for every input the law returns true; each argument reads behind the call as it read before'; 0 by the template 'total and deterministic' (their statements: YtkippapoicdlhaaTotals.lean).
  GIVEN WITH THE SEED: the statements are not yours to turn. If you find one false, say at which input.
  Laid BY PROGRAM, IN A SANDBOX (cutbox-rows.mjs): the forced cells as the released guide's own fill.sh prints them over the translation 5f748ab75046d363… (all of the seat's roots in one cut). By AI agents, Wed Nov 11 2026. No macro, syntax, notation, axiom, sorry.
-/
import Derived.Test.YtkippapoicdlhaaChecked
import GoSem.Claim
import GoSem.ClaimJoined
import GoSem.ClaimMapViews
import Derived.JoinedTies
import Derived.KernelRfl
namespace Go.Proofs.Ytkippapoicdlhaa
/- THE CELL 'sum', in the pinned program and in every row, IS THE sha256 OF THE DUMP (.gsa) THAT YtkippapoicdlhaaProg.lean LOADS. Nothing in Lean hashes anything: it is a label: what it is worth is what the hold of that sum in a sandbox is worth. -/
noncomputable def Try.pinned : Pinned := { name := "ytkippapoicdlhaa", sum := "5f748ab75046d3634107ad1dd298f96a157beef24786ec097d9bd8edf861d565", checked := Try.checked }
namespace Rows
def none {H : Type} : Left H := { results := [], args := [] }

/-- 'wayfinderlaw11.DrawFew': WHATEVER THE INPUT: true; the input reads as it did. -/
def drawFewSpec : ChangeSpec := { name := "drawFew", fn := fun _ => fun
  | [d1, d2, d3, d4] => { results := [.lit (.bool true)], args := [d1, d2, d3, d4] }
  | _ => none }
def drawFewRow : OpenClaim := { program := "ytkippapoicdlhaa", sum := "5f748ab75046d3634107ad1dd298f96a157beef24786ec097d9bd8edf861d565", func := "wayfinder/wayfinderlaw11.DrawFew", spec := "drawFew", apart := false }
def DrawFewSaid : Prop := drawFewRow.holds Try.pinned (OpenSpec.ofChange drawFewSpec)

/-- ITS FALSE NEIGHBOUR: 'it returns false'. Refute it at one input. -/
def drawFewWrong : ChangeSpec := { name := "drawFew", fn := fun _ => fun
  | [d1, d2, d3, d4] => { results := [.lit (.bool false)], args := [d1, d2, d3, d4] }
  | _ => none }
def DrawFewWrongFalsely : Prop := drawFewRow.holds Try.pinned (OpenSpec.ofChange drawFewWrong)

/-- 'wayfinderlaw11.DrawAll': WHATEVER THE INPUT: true; the input reads as it did. -/
def drawAllSpec : ChangeSpec := { name := "drawAll", fn := fun _ => fun
  | [d1, d2] => { results := [.lit (.bool true)], args := [d1, d2] }
  | _ => none }
def drawAllRow : OpenClaim := { program := "ytkippapoicdlhaa", sum := "5f748ab75046d3634107ad1dd298f96a157beef24786ec097d9bd8edf861d565", func := "wayfinder/wayfinderlaw11.DrawAll", spec := "drawAll", apart := false }
def DrawAllSaid : Prop := drawAllRow.holds Try.pinned (OpenSpec.ofChange drawAllSpec)

/-- ITS FALSE NEIGHBOUR: 'it returns false'. Refute it at one input. -/
def drawAllWrong : ChangeSpec := { name := "drawAll", fn := fun _ => fun
  | [d1, d2] => { results := [.lit (.bool false)], args := [d1, d2] }
  | _ => none }
def DrawAllWrongFalsely : Prop := drawAllRow.holds Try.pinned (OpenSpec.ofChange drawAllWrong)

/-- 'wayfinderlaw11.DrawPicks': WHATEVER THE INPUT: true; the input reads as it did. -/
def drawPicksSpec : ChangeSpec := { name := "drawPicks", fn := fun _ => fun
  | [d1, d2, d3, d4] => { results := [.lit (.bool true)], args := [d1, d2, d3, d4] }
  | _ => none }
def drawPicksRow : OpenClaim := { program := "ytkippapoicdlhaa", sum := "5f748ab75046d3634107ad1dd298f96a157beef24786ec097d9bd8edf861d565", func := "wayfinder/wayfinderlaw11.DrawPicks", spec := "drawPicks", unfollowed := true, recurses := true, apart := false }
def DrawPicksSaid : Prop := drawPicksRow.holds Try.pinned (OpenSpec.ofChange drawPicksSpec)

/-- ITS FALSE NEIGHBOUR: 'it returns false'. Refute it at one input. -/
def drawPicksWrong : ChangeSpec := { name := "drawPicks", fn := fun _ => fun
  | [d1, d2, d3, d4] => { results := [.lit (.bool false)], args := [d1, d2, d3, d4] }
  | _ => none }
def DrawPicksWrongFalsely : Prop := drawPicksRow.holds Try.pinned (OpenSpec.ofChange drawPicksWrong)

/-- 'wayfinderlaw11.DrawNames': WHATEVER THE INPUT: true; the input reads as it did. -/
def drawNamesSpec : ChangeSpec := { name := "drawNames", fn := fun _ => fun
  | [] => { results := [.lit (.bool true)], args := [] }
  | _ => none }
def drawNamesRow : OpenClaim := { program := "ytkippapoicdlhaa", sum := "5f748ab75046d3634107ad1dd298f96a157beef24786ec097d9bd8edf861d565", func := "wayfinder/wayfinderlaw11.DrawNames", spec := "drawNames", unfollowed := true, recurses := true, apart := false }
def DrawNamesSaid : Prop := drawNamesRow.holds Try.pinned (OpenSpec.ofChange drawNamesSpec)

/-- ITS FALSE NEIGHBOUR: 'it returns false'. Refute it at one input. -/
def drawNamesWrong : ChangeSpec := { name := "drawNames", fn := fun _ => fun
  | [] => { results := [.lit (.bool false)], args := [] }
  | _ => none }
def DrawNamesWrongFalsely : Prop := drawNamesRow.holds Try.pinned (OpenSpec.ofChange drawNamesWrong)

/-- 'wayfinderlaw11.DrawCalls': WHATEVER THE INPUT: true; the input reads as it did. -/
def drawCallsSpec : ChangeSpec := { name := "drawCalls", fn := fun _ => fun
  | [d1, d2, d3, d4, d5] => { results := [.lit (.bool true)], args := [d1, d2, d3, d4, d5] }
  | _ => none }
def drawCallsRow : OpenClaim := { program := "ytkippapoicdlhaa", sum := "5f748ab75046d3634107ad1dd298f96a157beef24786ec097d9bd8edf861d565", func := "wayfinder/wayfinderlaw11.DrawCalls", spec := "drawCalls", unfollowed := true, recurses := true, apart := false }
def DrawCallsSaid : Prop := drawCallsRow.holds Try.pinned (OpenSpec.ofChange drawCallsSpec)

/-- ITS FALSE NEIGHBOUR: 'it returns false'. Refute it at one input. -/
def drawCallsWrong : ChangeSpec := { name := "drawCalls", fn := fun _ => fun
  | [d1, d2, d3, d4, d5] => { results := [.lit (.bool false)], args := [d1, d2, d3, d4, d5] }
  | _ => none }
def DrawCallsWrongFalsely : Prop := drawCallsRow.holds Try.pinned (OpenSpec.ofChange drawCallsWrong)

/-- 'wayfinderlaw22.TrainAlone': WHATEVER THE INPUT: true; the input reads as it did. -/
def trainAloneSpec : ChangeSpec := { name := "trainAlone", fn := fun _ => fun
  | [d1, d2, d3] => { results := [.lit (.bool true)], args := [d1, d2, d3] }
  | _ => none }
def trainAloneRow : OpenClaim := { program := "ytkippapoicdlhaa", sum := "5f748ab75046d3634107ad1dd298f96a157beef24786ec097d9bd8edf861d565", func := "wayfinder/wayfinderlaw22.TrainAlone", spec := "trainAlone", unfollowed := true, recurses := true, apart := false }
def TrainAloneSaid : Prop := trainAloneRow.holds Try.pinned (OpenSpec.ofChange trainAloneSpec)

/-- ITS FALSE NEIGHBOUR: 'it returns false'. Refute it at one input. -/
def trainAloneWrong : ChangeSpec := { name := "trainAlone", fn := fun _ => fun
  | [d1, d2, d3] => { results := [.lit (.bool false)], args := [d1, d2, d3] }
  | _ => none }
def TrainAloneWrongFalsely : Prop := trainAloneRow.holds Try.pinned (OpenSpec.ofChange trainAloneWrong)

/-- 'wayfinderlaw22.TrainTurns': WHATEVER THE INPUT: true; the input reads as it did. -/
def trainTurnsSpec : ChangeSpec := { name := "trainTurns", fn := fun _ => fun
  | [d1, d2, d3] => { results := [.lit (.bool true)], args := [d1, d2, d3] }
  | _ => none }
def trainTurnsRow : OpenClaim := { program := "ytkippapoicdlhaa", sum := "5f748ab75046d3634107ad1dd298f96a157beef24786ec097d9bd8edf861d565", func := "wayfinder/wayfinderlaw22.TrainTurns", spec := "trainTurns", unfollowed := true, recurses := true, apart := false }
def TrainTurnsSaid : Prop := trainTurnsRow.holds Try.pinned (OpenSpec.ofChange trainTurnsSpec)

/-- ITS FALSE NEIGHBOUR: 'it returns false'. Refute it at one input. -/
def trainTurnsWrong : ChangeSpec := { name := "trainTurns", fn := fun _ => fun
  | [d1, d2, d3] => { results := [.lit (.bool false)], args := [d1, d2, d3] }
  | _ => none }
def TrainTurnsWrongFalsely : Prop := trainTurnsRow.holds Try.pinned (OpenSpec.ofChange trainTurnsWrong)

/-- 'wayfinderlaw22.TrainFits': WHATEVER THE INPUT: true; the input reads as it did. -/
def trainFitsSpec : ChangeSpec := { name := "trainFits", fn := fun _ => fun
  | [d1, d2, d3] => { results := [.lit (.bool true)], args := [d1, d2, d3] }
  | _ => none }
def trainFitsRow : OpenClaim := { program := "ytkippapoicdlhaa", sum := "5f748ab75046d3634107ad1dd298f96a157beef24786ec097d9bd8edf861d565", func := "wayfinder/wayfinderlaw22.TrainFits", spec := "trainFits", unfollowed := true, recurses := true, apart := false }
def TrainFitsSaid : Prop := trainFitsRow.holds Try.pinned (OpenSpec.ofChange trainFitsSpec)

/-- ITS FALSE NEIGHBOUR: 'it returns false'. Refute it at one input. -/
def trainFitsWrong : ChangeSpec := { name := "trainFits", fn := fun _ => fun
  | [d1, d2, d3] => { results := [.lit (.bool false)], args := [d1, d2, d3] }
  | _ => none }
def TrainFitsWrongFalsely : Prop := trainFitsRow.holds Try.pinned (OpenSpec.ofChange trainFitsWrong)

/-- 'wayfinderlaw22.TrainNil': WHATEVER THE INPUT: true; the input reads as it did. -/
def trainNilSpec : ChangeSpec := { name := "trainNil", fn := fun _ => fun
  | [d] => { results := [.lit (.bool true)], args := [d] }
  | _ => none }
def trainNilRow : OpenClaim := { program := "ytkippapoicdlhaa", sum := "5f748ab75046d3634107ad1dd298f96a157beef24786ec097d9bd8edf861d565", func := "wayfinder/wayfinderlaw22.TrainNil", spec := "trainNil", unfollowed := true, recurses := true, apart := false }
def TrainNilSaid : Prop := trainNilRow.holds Try.pinned (OpenSpec.ofChange trainNilSpec)

/-- ITS FALSE NEIGHBOUR: 'it returns false'. Refute it at one input. -/
def trainNilWrong : ChangeSpec := { name := "trainNil", fn := fun _ => fun
  | [d] => { results := [.lit (.bool false)], args := [d] }
  | _ => none }
def TrainNilWrongFalsely : Prop := trainNilRow.holds Try.pinned (OpenSpec.ofChange trainNilWrong)

/-- 'wayfinderlaw22.TrainNames': WHATEVER THE INPUT: true; the input reads as it did. -/
def trainNamesSpec : ChangeSpec := { name := "trainNames", fn := fun _ => fun
  | [] => { results := [.lit (.bool true)], args := [] }
  | _ => none }
def trainNamesRow : OpenClaim := { program := "ytkippapoicdlhaa", sum := "5f748ab75046d3634107ad1dd298f96a157beef24786ec097d9bd8edf861d565", func := "wayfinder/wayfinderlaw22.TrainNames", spec := "trainNames", unfollowed := true, recurses := true, apart := false }
def TrainNamesSaid : Prop := trainNamesRow.holds Try.pinned (OpenSpec.ofChange trainNamesSpec)

/-- ITS FALSE NEIGHBOUR: 'it returns false'. Refute it at one input. -/
def trainNamesWrong : ChangeSpec := { name := "trainNames", fn := fun _ => fun
  | [] => { results := [.lit (.bool false)], args := [] }
  | _ => none }
def TrainNamesWrongFalsely : Prop := trainNamesRow.holds Try.pinned (OpenSpec.ofChange trainNamesWrong)

/- THE SECOND FORM. 'bulk': how many values and letters a reading holds, each counted each time it is reached (what is shared counts as often as it is met; a slice's spare places count too). A statement '..UptoSaid' is the law's where the arguments, and the package variables that the reading takes, are together of bulk at most 1048576: NARROWER than '..Said'. Prove '..Said' where nothing that the law and all that it calls make is longer than what came in: it says more and counts as full. Else prove '..UptoSaid'. A law counts once. -/
mutual
def uptoBulk {H : Type} : DataW H → Nat
  | .lit (.string bytes) => bytes.length + 1
  | .lit _ => 1
  | .nil => 1
  | .ptr d => uptoBulk d + 1
  | .slice elems spare => uptoBulkAll elems + uptoBulkAll spare + 1
  | .agg parts => uptoBulkAll parts + 1
  | .iface _ d => uptoBulk d + 1
  | .map entries => uptoBulkEntries entries + 1
  | .held _ => 1
def uptoBulkAll {H : Type} : List (DataW H) → Nat
  | [] => 0
  | d :: r => uptoBulk d + uptoBulkAll r
def uptoBulkEntries {H : Type} : List (Lit × DataW H) → Nat
  | [] => 0
  | x :: r => uptoBulkEntry x + uptoBulkEntries r
def uptoBulkEntry {H : Type} : Lit × DataW H → Nat
  | (.string bytes, d) => bytes.length + uptoBulk d + 1
  | (_, d) => uptoBulk d + 1
 end
def uptoSmall : (H : Type) → List (DataW H) → Bool := fun _ ds => decide (uptoBulkAll ds ≤ 1048576)
def OpenSpec.upto (s : _root_.Go.ChangeSpec) : _root_.Go.OpenSpec := { _root_.Go.OpenSpec.ofChange s with cond := some uptoSmall }

/-- 'wayfinderlaw11.DrawFew', WHERE WHAT IT READS IS OF BULK AT MOST 1048576: true; the input reads as it did. -/
def drawFewUptoRow : OpenClaim := { program := "ytkippapoicdlhaa", sum := "5f748ab75046d3634107ad1dd298f96a157beef24786ec097d9bd8edf861d565", func := "wayfinder/wayfinderlaw11.DrawFew", spec := "drawFew", apart := false, narrowed := true }
def DrawFewUptoSaid : Prop := drawFewUptoRow.holds Try.pinned (OpenSpec.upto drawFewSpec)

/-- 'wayfinderlaw11.DrawAll', WHERE WHAT IT READS IS OF BULK AT MOST 1048576: true; the input reads as it did. -/
def drawAllUptoRow : OpenClaim := { program := "ytkippapoicdlhaa", sum := "5f748ab75046d3634107ad1dd298f96a157beef24786ec097d9bd8edf861d565", func := "wayfinder/wayfinderlaw11.DrawAll", spec := "drawAll", apart := false, narrowed := true }
def DrawAllUptoSaid : Prop := drawAllUptoRow.holds Try.pinned (OpenSpec.upto drawAllSpec)

/-- 'wayfinderlaw11.DrawPicks', WHERE WHAT IT READS IS OF BULK AT MOST 1048576: true; the input reads as it did. -/
def drawPicksUptoRow : OpenClaim := { program := "ytkippapoicdlhaa", sum := "5f748ab75046d3634107ad1dd298f96a157beef24786ec097d9bd8edf861d565", func := "wayfinder/wayfinderlaw11.DrawPicks", spec := "drawPicks", unfollowed := true, recurses := true, apart := false, narrowed := true }
def DrawPicksUptoSaid : Prop := drawPicksUptoRow.holds Try.pinned (OpenSpec.upto drawPicksSpec)

/-- 'wayfinderlaw11.DrawNames', WHERE WHAT IT READS IS OF BULK AT MOST 1048576: true; the input reads as it did. -/
def drawNamesUptoRow : OpenClaim := { program := "ytkippapoicdlhaa", sum := "5f748ab75046d3634107ad1dd298f96a157beef24786ec097d9bd8edf861d565", func := "wayfinder/wayfinderlaw11.DrawNames", spec := "drawNames", unfollowed := true, recurses := true, apart := false, narrowed := true }
def DrawNamesUptoSaid : Prop := drawNamesUptoRow.holds Try.pinned (OpenSpec.upto drawNamesSpec)

/-- 'wayfinderlaw11.DrawCalls', WHERE WHAT IT READS IS OF BULK AT MOST 1048576: true; the input reads as it did. -/
def drawCallsUptoRow : OpenClaim := { program := "ytkippapoicdlhaa", sum := "5f748ab75046d3634107ad1dd298f96a157beef24786ec097d9bd8edf861d565", func := "wayfinder/wayfinderlaw11.DrawCalls", spec := "drawCalls", unfollowed := true, recurses := true, apart := false, narrowed := true }
def DrawCallsUptoSaid : Prop := drawCallsUptoRow.holds Try.pinned (OpenSpec.upto drawCallsSpec)

/-- 'wayfinderlaw22.TrainAlone', WHERE WHAT IT READS IS OF BULK AT MOST 1048576: true; the input reads as it did. -/
def trainAloneUptoRow : OpenClaim := { program := "ytkippapoicdlhaa", sum := "5f748ab75046d3634107ad1dd298f96a157beef24786ec097d9bd8edf861d565", func := "wayfinder/wayfinderlaw22.TrainAlone", spec := "trainAlone", unfollowed := true, recurses := true, apart := false, narrowed := true }
def TrainAloneUptoSaid : Prop := trainAloneUptoRow.holds Try.pinned (OpenSpec.upto trainAloneSpec)

/-- 'wayfinderlaw22.TrainTurns', WHERE WHAT IT READS IS OF BULK AT MOST 1048576: true; the input reads as it did. -/
def trainTurnsUptoRow : OpenClaim := { program := "ytkippapoicdlhaa", sum := "5f748ab75046d3634107ad1dd298f96a157beef24786ec097d9bd8edf861d565", func := "wayfinder/wayfinderlaw22.TrainTurns", spec := "trainTurns", unfollowed := true, recurses := true, apart := false, narrowed := true }
def TrainTurnsUptoSaid : Prop := trainTurnsUptoRow.holds Try.pinned (OpenSpec.upto trainTurnsSpec)

/-- 'wayfinderlaw22.TrainFits', WHERE WHAT IT READS IS OF BULK AT MOST 1048576: true; the input reads as it did. -/
def trainFitsUptoRow : OpenClaim := { program := "ytkippapoicdlhaa", sum := "5f748ab75046d3634107ad1dd298f96a157beef24786ec097d9bd8edf861d565", func := "wayfinder/wayfinderlaw22.TrainFits", spec := "trainFits", unfollowed := true, recurses := true, apart := false, narrowed := true }
def TrainFitsUptoSaid : Prop := trainFitsUptoRow.holds Try.pinned (OpenSpec.upto trainFitsSpec)

/-- 'wayfinderlaw22.TrainNil', WHERE WHAT IT READS IS OF BULK AT MOST 1048576: true; the input reads as it did. -/
def trainNilUptoRow : OpenClaim := { program := "ytkippapoicdlhaa", sum := "5f748ab75046d3634107ad1dd298f96a157beef24786ec097d9bd8edf861d565", func := "wayfinder/wayfinderlaw22.TrainNil", spec := "trainNil", unfollowed := true, recurses := true, apart := false, narrowed := true }
def TrainNilUptoSaid : Prop := trainNilUptoRow.holds Try.pinned (OpenSpec.upto trainNilSpec)

/-- 'wayfinderlaw22.TrainNames', WHERE WHAT IT READS IS OF BULK AT MOST 1048576: true; the input reads as it did. -/
def trainNamesUptoRow : OpenClaim := { program := "ytkippapoicdlhaa", sum := "5f748ab75046d3634107ad1dd298f96a157beef24786ec097d9bd8edf861d565", func := "wayfinder/wayfinderlaw22.TrainNames", spec := "trainNames", unfollowed := true, recurses := true, apart := false, narrowed := true }
def TrainNamesUptoSaid : Prop := trainNamesUptoRow.holds Try.pinned (OpenSpec.upto trainNamesSpec)

end Rows
end Go.Proofs.Ytkippapoicdlhaa
