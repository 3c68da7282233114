/-
  No cell of these rows narrows 'for every input' (looked for: loops, veiled, ifaces, maps, wideKeys, modest, calm, conditions, laid).
  DERIVED. THE GIVEN ROWS OF THIS SEAT. 8 by the template 'for every input the law returns true; each argument reads behind the call as it read before'; 0 by the template 'total and deterministic' (their statements: YtpcacklmelokiaaTotals.lean).
  GIVEN WITH THE SEED: the statements are not yours to turn. If you find one false, say at which input.
  Laid BY PROGRAM, IN A SANDBOX (cutbox-rows.mjs): the forced cells as the released guide's own fill.sh prints them over the translation b19e99f67a78609d… (all of the seat's roots in one cut). By AI agents, Wed Nov 11 2026. No macro, syntax, notation, axiom, sorry.
-/
import Derived.Test.YtpcacklmelokiaaChecked
import GoSem.Claim
import GoSem.ClaimJoined
import GoSem.ClaimMapViews
import Derived.JoinedTies
import Derived.KernelRfl
namespace Go.Proofs.Ytpcacklmelokiaa
/- THE CELL 'sum', in the pinned program and in every row, IS THE sha256 OF THE DUMP (.gsa) THAT YtpcacklmelokiaaProg.lean LOADS. Nothing in Lean hashes anything: it is a label: what it is worth is what the hold of that sum in a sandbox is worth. -/
noncomputable def Try.pinned : Pinned := { name := "ytpcacklmelokiaa", sum := "b19e99f67a78609d3079b44cff2463c64b58bdb409e994e0bf87c3528c0c5209", checked := Try.checked }
namespace Rows
def none {H : Type} : Left H := { results := [], args := [] }

/-- 'wayfinderlaw14.PartColumns': WHATEVER THE INPUT: true; the input reads as it did. -/
def partColumnsSpec : ChangeSpec := { name := "partColumns", fn := fun _ => fun
  | [d1, d2] => { results := [.lit (.bool true)], args := [d1, d2] }
  | _ => none }
def partColumnsRow : OpenClaim := { program := "ytpcacklmelokiaa", sum := "b19e99f67a78609d3079b44cff2463c64b58bdb409e994e0bf87c3528c0c5209", func := "wayfinder/wayfinderlaw14.PartColumns", spec := "partColumns", unfollowed := true, recurses := true, apart := false }
def PartColumnsSaid : Prop := partColumnsRow.holds Try.pinned (OpenSpec.ofChange partColumnsSpec)

/-- ITS FALSE NEIGHBOUR: 'it returns false'. Refute it at one input. -/
def partColumnsWrong : ChangeSpec := { name := "partColumns", fn := fun _ => fun
  | [d1, d2] => { results := [.lit (.bool false)], args := [d1, d2] }
  | _ => none }
def PartColumnsWrongFalsely : Prop := partColumnsRow.holds Try.pinned (OpenSpec.ofChange partColumnsWrong)

/-- 'wayfinderlaw14.PartSums': WHATEVER THE INPUT: true; the input reads as it did. -/
def partSumsSpec : ChangeSpec := { name := "partSums", fn := fun _ => fun
  | [d1, d2, d3] => { results := [.lit (.bool true)], args := [d1, d2, d3] }
  | _ => none }
def partSumsRow : OpenClaim := { program := "ytpcacklmelokiaa", sum := "b19e99f67a78609d3079b44cff2463c64b58bdb409e994e0bf87c3528c0c5209", func := "wayfinder/wayfinderlaw14.PartSums", spec := "partSums", unfollowed := true, recurses := true, apart := false }
def PartSumsSaid : Prop := partSumsRow.holds Try.pinned (OpenSpec.ofChange partSumsSpec)

/-- ITS FALSE NEIGHBOUR: 'it returns false'. Refute it at one input. -/
def partSumsWrong : ChangeSpec := { name := "partSums", fn := fun _ => fun
  | [d1, d2, d3] => { results := [.lit (.bool false)], args := [d1, d2, d3] }
  | _ => none }
def PartSumsWrongFalsely : Prop := partSumsRow.holds Try.pinned (OpenSpec.ofChange partSumsWrong)

/-- 'wayfinderlaw14.PartTwice': WHATEVER THE INPUT: true; the input reads as it did. -/
def partTwiceSpec : ChangeSpec := { name := "partTwice", fn := fun _ => fun
  | [d1, d2, d3] => { results := [.lit (.bool true)], args := [d1, d2, d3] }
  | _ => none }
def partTwiceRow : OpenClaim := { program := "ytpcacklmelokiaa", sum := "b19e99f67a78609d3079b44cff2463c64b58bdb409e994e0bf87c3528c0c5209", func := "wayfinder/wayfinderlaw14.PartTwice", spec := "partTwice", unfollowed := true, recurses := true, apart := false }
def PartTwiceSaid : Prop := partTwiceRow.holds Try.pinned (OpenSpec.ofChange partTwiceSpec)

/-- ITS FALSE NEIGHBOUR: 'it returns false'. Refute it at one input. -/
def partTwiceWrong : ChangeSpec := { name := "partTwice", fn := fun _ => fun
  | [d1, d2, d3] => { results := [.lit (.bool false)], args := [d1, d2, d3] }
  | _ => none }
def PartTwiceWrongFalsely : Prop := partTwiceRow.holds Try.pinned (OpenSpec.ofChange partTwiceWrong)

/-- 'wayfinderlaw14.PartNames': WHATEVER THE INPUT: true; the input reads as it did. -/
def partNamesSpec : ChangeSpec := { name := "partNames", fn := fun _ => fun
  | [] => { results := [.lit (.bool true)], args := [] }
  | _ => none }
def partNamesRow : OpenClaim := { program := "ytpcacklmelokiaa", sum := "b19e99f67a78609d3079b44cff2463c64b58bdb409e994e0bf87c3528c0c5209", func := "wayfinder/wayfinderlaw14.PartNames", spec := "partNames", unfollowed := true, recurses := true, apart := false }
def PartNamesSaid : Prop := partNamesRow.holds Try.pinned (OpenSpec.ofChange partNamesSpec)

/-- ITS FALSE NEIGHBOUR: 'it returns false'. Refute it at one input. -/
def partNamesWrong : ChangeSpec := { name := "partNames", fn := fun _ => fun
  | [] => { results := [.lit (.bool false)], args := [] }
  | _ => none }
def PartNamesWrongFalsely : Prop := partNamesRow.holds Try.pinned (OpenSpec.ofChange partNamesWrong)

/-- 'wayfinderlaw14.PartCalls': WHATEVER THE INPUT: true; the input reads as it did. -/
def partCallsSpec : ChangeSpec := { name := "partCalls", fn := fun _ => fun
  | [d1, d2, d3, d4, d5] => { results := [.lit (.bool true)], args := [d1, d2, d3, d4, d5] }
  | _ => none }
def partCallsRow : OpenClaim := { program := "ytpcacklmelokiaa", sum := "b19e99f67a78609d3079b44cff2463c64b58bdb409e994e0bf87c3528c0c5209", func := "wayfinder/wayfinderlaw14.PartCalls", spec := "partCalls", unfollowed := true, recurses := true, apart := false }
def PartCallsSaid : Prop := partCallsRow.holds Try.pinned (OpenSpec.ofChange partCallsSpec)

/-- ITS FALSE NEIGHBOUR: 'it returns false'. Refute it at one input. -/
def partCallsWrong : ChangeSpec := { name := "partCalls", fn := fun _ => fun
  | [d1, d2, d3, d4, d5] => { results := [.lit (.bool false)], args := [d1, d2, d3, d4, d5] }
  | _ => none }
def PartCallsWrongFalsely : Prop := partCallsRow.holds Try.pinned (OpenSpec.ofChange partCallsWrong)

/-- 'wayfinderlaw15.BookBest': WHATEVER THE INPUT: true; the input reads as it did. -/
def bookBestSpec : ChangeSpec := { name := "bookBest", fn := fun _ => fun
  | [d1, d2, d3] => { results := [.lit (.bool true)], args := [d1, d2, d3] }
  | _ => none }
def bookBestRow : OpenClaim := { program := "ytpcacklmelokiaa", sum := "b19e99f67a78609d3079b44cff2463c64b58bdb409e994e0bf87c3528c0c5209", func := "wayfinder/wayfinderlaw15.BookBest", spec := "bookBest", unfollowed := true, recurses := true, apart := false }
def BookBestSaid : Prop := bookBestRow.holds Try.pinned (OpenSpec.ofChange bookBestSpec)

/-- ITS FALSE NEIGHBOUR: 'it returns false'. Refute it at one input. -/
def bookBestWrong : ChangeSpec := { name := "bookBest", fn := fun _ => fun
  | [d1, d2, d3] => { results := [.lit (.bool false)], args := [d1, d2, d3] }
  | _ => none }
def BookBestWrongFalsely : Prop := bookBestRow.holds Try.pinned (OpenSpec.ofChange bookBestWrong)

/-- 'wayfinderlaw15.BookAgain': WHATEVER THE INPUT: true; the input reads as it did. -/
def bookAgainSpec : ChangeSpec := { name := "bookAgain", fn := fun _ => fun
  | [d1, d2] => { results := [.lit (.bool true)], args := [d1, d2] }
  | _ => none }
def bookAgainRow : OpenClaim := { program := "ytpcacklmelokiaa", sum := "b19e99f67a78609d3079b44cff2463c64b58bdb409e994e0bf87c3528c0c5209", func := "wayfinder/wayfinderlaw15.BookAgain", spec := "bookAgain", unfollowed := true, recurses := true, apart := false }
def BookAgainSaid : Prop := bookAgainRow.holds Try.pinned (OpenSpec.ofChange bookAgainSpec)

/-- ITS FALSE NEIGHBOUR: 'it returns false'. Refute it at one input. -/
def bookAgainWrong : ChangeSpec := { name := "bookAgain", fn := fun _ => fun
  | [d1, d2] => { results := [.lit (.bool false)], args := [d1, d2] }
  | _ => none }
def BookAgainWrongFalsely : Prop := bookAgainRow.holds Try.pinned (OpenSpec.ofChange bookAgainWrong)

/-- 'wayfinderlaw15.BookParts': WHATEVER THE INPUT: true; the input reads as it did. -/
def bookPartsSpec : ChangeSpec := { name := "bookParts", fn := fun _ => fun
  | [d1, d2, d3, d4] => { results := [.lit (.bool true)], args := [d1, d2, d3, d4] }
  | _ => none }
def bookPartsRow : OpenClaim := { program := "ytpcacklmelokiaa", sum := "b19e99f67a78609d3079b44cff2463c64b58bdb409e994e0bf87c3528c0c5209", func := "wayfinder/wayfinderlaw15.BookParts", spec := "bookParts", unfollowed := true, recurses := true, apart := false }
def BookPartsSaid : Prop := bookPartsRow.holds Try.pinned (OpenSpec.ofChange bookPartsSpec)

/-- ITS FALSE NEIGHBOUR: 'it returns false'. Refute it at one input. -/
def bookPartsWrong : ChangeSpec := { name := "bookParts", fn := fun _ => fun
  | [d1, d2, d3, d4] => { results := [.lit (.bool false)], args := [d1, d2, d3, d4] }
  | _ => none }
def BookPartsWrongFalsely : Prop := bookPartsRow.holds Try.pinned (OpenSpec.ofChange bookPartsWrong)

/- THE SECOND FORM. 'bulk': how many values and letters a reading holds, each counted each time it is reached (what is shared counts as often as it is met; a slice's spare places count too). A statement '..UptoSaid' is the law's where the arguments, and the package variables that the reading takes, are together of bulk at most 1048576: NARROWER than '..Said'. Prove '..Said' where nothing that the law and all that it calls make is longer than what came in: it says more and counts as full. Else prove '..UptoSaid'. A law counts once. -/
mutual
def uptoBulk {H : Type} : DataW H → Nat
  | .lit (.string bytes) => bytes.length + 1
  | .lit _ => 1
  | .nil => 1
  | .ptr d => uptoBulk d + 1
  | .slice elems spare => uptoBulkAll elems + uptoBulkAll spare + 1
  | .agg parts => uptoBulkAll parts + 1
  | .iface _ d => uptoBulk d + 1
  | .map entries => uptoBulkEntries entries + 1
  | .held _ => 1
def uptoBulkAll {H : Type} : List (DataW H) → Nat
  | [] => 0
  | d :: r => uptoBulk d + uptoBulkAll r
def uptoBulkEntries {H : Type} : List (Lit × DataW H) → Nat
  | [] => 0
  | x :: r => uptoBulkEntry x + uptoBulkEntries r
def uptoBulkEntry {H : Type} : Lit × DataW H → Nat
  | (.string bytes, d) => bytes.length + uptoBulk d + 1
  | (_, d) => uptoBulk d + 1
 end
def uptoSmall : (H : Type) → List (DataW H) → Bool := fun _ ds => decide (uptoBulkAll ds ≤ 1048576)
def OpenSpec.upto (s : _root_.Go.ChangeSpec) : _root_.Go.OpenSpec := { _root_.Go.OpenSpec.ofChange s with cond := some uptoSmall }

/-- 'wayfinderlaw14.PartColumns', WHERE WHAT IT READS IS OF BULK AT MOST 1048576: true; the input reads as it did. -/
def partColumnsUptoRow : OpenClaim := { program := "ytpcacklmelokiaa", sum := "b19e99f67a78609d3079b44cff2463c64b58bdb409e994e0bf87c3528c0c5209", func := "wayfinder/wayfinderlaw14.PartColumns", spec := "partColumns", unfollowed := true, recurses := true, apart := false, narrowed := true }
def PartColumnsUptoSaid : Prop := partColumnsUptoRow.holds Try.pinned (OpenSpec.upto partColumnsSpec)

/-- 'wayfinderlaw14.PartSums', WHERE WHAT IT READS IS OF BULK AT MOST 1048576: true; the input reads as it did. -/
def partSumsUptoRow : OpenClaim := { program := "ytpcacklmelokiaa", sum := "b19e99f67a78609d3079b44cff2463c64b58bdb409e994e0bf87c3528c0c5209", func := "wayfinder/wayfinderlaw14.PartSums", spec := "partSums", unfollowed := true, recurses := true, apart := false, narrowed := true }
def PartSumsUptoSaid : Prop := partSumsUptoRow.holds Try.pinned (OpenSpec.upto partSumsSpec)

/-- 'wayfinderlaw14.PartTwice', WHERE WHAT IT READS IS OF BULK AT MOST 1048576: true; the input reads as it did. -/
def partTwiceUptoRow : OpenClaim := { program := "ytpcacklmelokiaa", sum := "b19e99f67a78609d3079b44cff2463c64b58bdb409e994e0bf87c3528c0c5209", func := "wayfinder/wayfinderlaw14.PartTwice", spec := "partTwice", unfollowed := true, recurses := true, apart := false, narrowed := true }
def PartTwiceUptoSaid : Prop := partTwiceUptoRow.holds Try.pinned (OpenSpec.upto partTwiceSpec)

/-- 'wayfinderlaw14.PartNames', WHERE WHAT IT READS IS OF BULK AT MOST 1048576: true; the input reads as it did. -/
def partNamesUptoRow : OpenClaim := { program := "ytpcacklmelokiaa", sum := "b19e99f67a78609d3079b44cff2463c64b58bdb409e994e0bf87c3528c0c5209", func := "wayfinder/wayfinderlaw14.PartNames", spec := "partNames", unfollowed := true, recurses := true, apart := false, narrowed := true }
def PartNamesUptoSaid : Prop := partNamesUptoRow.holds Try.pinned (OpenSpec.upto partNamesSpec)

/-- 'wayfinderlaw14.PartCalls', WHERE WHAT IT READS IS OF BULK AT MOST 1048576: true; the input reads as it did. -/
def partCallsUptoRow : OpenClaim := { program := "ytpcacklmelokiaa", sum := "b19e99f67a78609d3079b44cff2463c64b58bdb409e994e0bf87c3528c0c5209", func := "wayfinder/wayfinderlaw14.PartCalls", spec := "partCalls", unfollowed := true, recurses := true, apart := false, narrowed := true }
def PartCallsUptoSaid : Prop := partCallsUptoRow.holds Try.pinned (OpenSpec.upto partCallsSpec)

/-- 'wayfinderlaw15.BookBest', WHERE WHAT IT READS IS OF BULK AT MOST 1048576: true; the input reads as it did. -/
def bookBestUptoRow : OpenClaim := { program := "ytpcacklmelokiaa", sum := "b19e99f67a78609d3079b44cff2463c64b58bdb409e994e0bf87c3528c0c5209", func := "wayfinder/wayfinderlaw15.BookBest", spec := "bookBest", unfollowed := true, recurses := true, apart := false, narrowed := true }
def BookBestUptoSaid : Prop := bookBestUptoRow.holds Try.pinned (OpenSpec.upto bookBestSpec)

/-- 'wayfinderlaw15.BookAgain', WHERE WHAT IT READS IS OF BULK AT MOST 1048576: true; the input reads as it did. -/
def bookAgainUptoRow : OpenClaim := { program := "ytpcacklmelokiaa", sum := "b19e99f67a78609d3079b44cff2463c64b58bdb409e994e0bf87c3528c0c5209", func := "wayfinder/wayfinderlaw15.BookAgain", spec := "bookAgain", unfollowed := true, recurses := true, apart := false, narrowed := true }
def BookAgainUptoSaid : Prop := bookAgainUptoRow.holds Try.pinned (OpenSpec.upto bookAgainSpec)

/-- 'wayfinderlaw15.BookParts', WHERE WHAT IT READS IS OF BULK AT MOST 1048576: true; the input reads as it did. -/
def bookPartsUptoRow : OpenClaim := { program := "ytpcacklmelokiaa", sum := "b19e99f67a78609d3079b44cff2463c64b58bdb409e994e0bf87c3528c0c5209", func := "wayfinder/wayfinderlaw15.BookParts", spec := "bookParts", unfollowed := true, recurses := true, apart := false, narrowed := true }
def BookPartsUptoSaid : Prop := bookPartsUptoRow.holds Try.pinned (OpenSpec.upto bookPartsSpec)

end Rows
end Go.Proofs.Ytpcacklmelokiaa
