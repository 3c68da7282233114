/-
  No cell of these rows narrows 'for every input' (looked for: loops, veiled, ifaces, maps, wideKeys, modest, calm, conditions, laid).
  DERIVED. THE GIVEN ROWS OF THIS SEAT. 4 by the template 'for every input the law returns true; each argument reads behind the call as it read before'; 0 by the template 'total and deterministic' (their statements: YtfleloeadbdbcaaGreatTotals.lean).
  GIVEN WITH THE SEED: the statements are not yours to turn. If you find one false, say at which input.
  Laid BY PROGRAM, IN A SANDBOX (cutbox-rows.mjs): the forced cells as the released guide's own fill.sh prints them over the translation 5ae03ac8ea69dcaa… (all of the seat's roots in one cut). By AI agents, Wed Nov 11 2026. No macro, syntax, notation, axiom, sorry.
-/
import Derived.Test.YtfleloeadbdbcaaGreatChecked
import GoSem.Claim
import GoSem.ClaimJoined
import GoSem.ClaimMapViews
import Derived.JoinedTies
import Derived.KernelRfl
namespace Go.Proofs.YtfleloeadbdbcaaGreat
/- THE CELL 'sum', in the pinned program and in every row, IS THE sha256 OF THE DUMP (.gsa) THAT YtfleloeadbdbcaaGreatProg.lean LOADS. Nothing in Lean hashes anything: it is a label: what it is worth is what the hold of that sum in a sandbox is worth. -/
noncomputable def Tryz.pinned : Pinned := { name := "ytfleloeadbdbcaagreat", sum := "5ae03ac8ea69dcaa7c4e4ac371ba69232fb85a12d62311a7b8b0764af0387828", checked := Tryz.checked }
namespace Rows
def none {H : Type} : Left H := { results := [], args := [] }

/-- 'wayfinderlaw10.BaseRoom': WHATEVER THE INPUT: true; the input reads as it did. -/
def baseRoomSpec : ChangeSpec := { name := "baseRoom", fn := fun _ => fun
  | [d1, d2, d3] => { results := [.lit (.bool true)], args := [d1, d2, d3] }
  | _ => none }
def baseRoomRow : OpenClaim := { program := "ytfleloeadbdbcaagreat", sum := "5ae03ac8ea69dcaa7c4e4ac371ba69232fb85a12d62311a7b8b0764af0387828", func := "wayfinder/wayfinderlaw10.BaseRoom", spec := "baseRoom", unfollowed := true, recurses := true, apart := false }
def BaseRoomSaid : Prop := baseRoomRow.holds Tryz.pinned (OpenSpec.ofChange baseRoomSpec)

/-- ITS FALSE NEIGHBOUR: 'it returns false'. Refute it at one input. -/
def baseRoomWrong : ChangeSpec := { name := "baseRoom", fn := fun _ => fun
  | [d1, d2, d3] => { results := [.lit (.bool false)], args := [d1, d2, d3] }
  | _ => none }
def BaseRoomWrongFalsely : Prop := baseRoomRow.holds Tryz.pinned (OpenSpec.ofChange baseRoomWrong)

/-- 'wayfinderlaw10.BaseNames': WHATEVER THE INPUT: true; the input reads as it did. -/
def baseNamesSpec : ChangeSpec := { name := "baseNames", fn := fun _ => fun
  | [] => { results := [.lit (.bool true)], args := [] }
  | _ => none }
def baseNamesRow : OpenClaim := { program := "ytfleloeadbdbcaagreat", sum := "5ae03ac8ea69dcaa7c4e4ac371ba69232fb85a12d62311a7b8b0764af0387828", func := "wayfinder/wayfinderlaw10.BaseNames", spec := "baseNames", unfollowed := true, recurses := true, apart := false }
def BaseNamesSaid : Prop := baseNamesRow.holds Tryz.pinned (OpenSpec.ofChange baseNamesSpec)

/-- ITS FALSE NEIGHBOUR: 'it returns false'. Refute it at one input. -/
def baseNamesWrong : ChangeSpec := { name := "baseNames", fn := fun _ => fun
  | [] => { results := [.lit (.bool false)], args := [] }
  | _ => none }
def BaseNamesWrongFalsely : Prop := baseNamesRow.holds Tryz.pinned (OpenSpec.ofChange baseNamesWrong)

/-- 'wayfinderlaw10.BaseCrash': WHATEVER THE INPUT: true; the input reads as it did. -/
def baseCrashSpec : ChangeSpec := { name := "baseCrash", fn := fun _ => fun
  | [d1, d2, d3, d4] => { results := [.lit (.bool true)], args := [d1, d2, d3, d4] }
  | _ => none }
def baseCrashRow : OpenClaim := { program := "ytfleloeadbdbcaagreat", sum := "5ae03ac8ea69dcaa7c4e4ac371ba69232fb85a12d62311a7b8b0764af0387828", func := "wayfinder/wayfinderlaw10.BaseCrash", spec := "baseCrash", unfollowed := true, recurses := true, apart := false }
def BaseCrashSaid : Prop := baseCrashRow.holds Tryz.pinned (OpenSpec.ofChange baseCrashSpec)

/-- ITS FALSE NEIGHBOUR: 'it returns false'. Refute it at one input. -/
def baseCrashWrong : ChangeSpec := { name := "baseCrash", fn := fun _ => fun
  | [d1, d2, d3, d4] => { results := [.lit (.bool false)], args := [d1, d2, d3, d4] }
  | _ => none }
def BaseCrashWrongFalsely : Prop := baseCrashRow.holds Tryz.pinned (OpenSpec.ofChange baseCrashWrong)

/-- 'wayfinderlaw10.BaseDisk': WHATEVER THE INPUT: true; the input reads as it did. -/
def baseDiskSpec : ChangeSpec := { name := "baseDisk", fn := fun _ => fun
  | [d1, d2, d3, d4, d5] => { results := [.lit (.bool true)], args := [d1, d2, d3, d4, d5] }
  | _ => none }
def baseDiskRow : OpenClaim := { program := "ytfleloeadbdbcaagreat", sum := "5ae03ac8ea69dcaa7c4e4ac371ba69232fb85a12d62311a7b8b0764af0387828", func := "wayfinder/wayfinderlaw10.BaseDisk", spec := "baseDisk", unfollowed := true, recurses := true, apart := false }
def BaseDiskSaid : Prop := baseDiskRow.holds Tryz.pinned (OpenSpec.ofChange baseDiskSpec)

/-- ITS FALSE NEIGHBOUR: 'it returns false'. Refute it at one input. -/
def baseDiskWrong : ChangeSpec := { name := "baseDisk", fn := fun _ => fun
  | [d1, d2, d3, d4, d5] => { results := [.lit (.bool false)], args := [d1, d2, d3, d4, d5] }
  | _ => none }
def BaseDiskWrongFalsely : Prop := baseDiskRow.holds Tryz.pinned (OpenSpec.ofChange baseDiskWrong)

/- THE SECOND FORM. 'bulk': how many values and letters a reading holds, each counted each time it is reached (what is shared counts as often as it is met; a slice's spare places count too). A statement '..UptoSaid' is the law's where the arguments, and the package variables that the reading takes, are together of bulk at most 1048576: NARROWER than '..Said'. Prove '..Said' where nothing that the law and all that it calls make is longer than what came in: it says more and counts as full. Else prove '..UptoSaid'. A law counts once. -/
mutual
def uptoBulk {H : Type} : DataW H → Nat
  | .lit (.string bytes) => bytes.length + 1
  | .lit _ => 1
  | .nil => 1
  | .ptr d => uptoBulk d + 1
  | .slice elems spare => uptoBulkAll elems + uptoBulkAll spare + 1
  | .agg parts => uptoBulkAll parts + 1
  | .iface _ d => uptoBulk d + 1
  | .map entries => uptoBulkEntries entries + 1
  | .held _ => 1
def uptoBulkAll {H : Type} : List (DataW H) → Nat
  | [] => 0
  | d :: r => uptoBulk d + uptoBulkAll r
def uptoBulkEntries {H : Type} : List (Lit × DataW H) → Nat
  | [] => 0
  | x :: r => uptoBulkEntry x + uptoBulkEntries r
def uptoBulkEntry {H : Type} : Lit × DataW H → Nat
  | (.string bytes, d) => bytes.length + uptoBulk d + 1
  | (_, d) => uptoBulk d + 1
 end
def uptoSmall : (H : Type) → List (DataW H) → Bool := fun _ ds => decide (uptoBulkAll ds ≤ 1048576)
def OpenSpec.upto (s : _root_.Go.ChangeSpec) : _root_.Go.OpenSpec := { _root_.Go.OpenSpec.ofChange s with cond := some uptoSmall }

/-- 'wayfinderlaw10.BaseRoom', WHERE WHAT IT READS IS OF BULK AT MOST 1048576: true; the input reads as it did. -/
def baseRoomUptoRow : OpenClaim := { program := "ytfleloeadbdbcaagreat", sum := "5ae03ac8ea69dcaa7c4e4ac371ba69232fb85a12d62311a7b8b0764af0387828", func := "wayfinder/wayfinderlaw10.BaseRoom", spec := "baseRoom", unfollowed := true, recurses := true, apart := false, narrowed := true }
def BaseRoomUptoSaid : Prop := baseRoomUptoRow.holds Tryz.pinned (OpenSpec.upto baseRoomSpec)

/-- 'wayfinderlaw10.BaseNames', WHERE WHAT IT READS IS OF BULK AT MOST 1048576: true; the input reads as it did. -/
def baseNamesUptoRow : OpenClaim := { program := "ytfleloeadbdbcaagreat", sum := "5ae03ac8ea69dcaa7c4e4ac371ba69232fb85a12d62311a7b8b0764af0387828", func := "wayfinder/wayfinderlaw10.BaseNames", spec := "baseNames", unfollowed := true, recurses := true, apart := false, narrowed := true }
def BaseNamesUptoSaid : Prop := baseNamesUptoRow.holds Tryz.pinned (OpenSpec.upto baseNamesSpec)

/-- 'wayfinderlaw10.BaseCrash', WHERE WHAT IT READS IS OF BULK AT MOST 1048576: true; the input reads as it did. -/
def baseCrashUptoRow : OpenClaim := { program := "ytfleloeadbdbcaagreat", sum := "5ae03ac8ea69dcaa7c4e4ac371ba69232fb85a12d62311a7b8b0764af0387828", func := "wayfinder/wayfinderlaw10.BaseCrash", spec := "baseCrash", unfollowed := true, recurses := true, apart := false, narrowed := true }
def BaseCrashUptoSaid : Prop := baseCrashUptoRow.holds Tryz.pinned (OpenSpec.upto baseCrashSpec)

/-- 'wayfinderlaw10.BaseDisk', WHERE WHAT IT READS IS OF BULK AT MOST 1048576: true; the input reads as it did. -/
def baseDiskUptoRow : OpenClaim := { program := "ytfleloeadbdbcaagreat", sum := "5ae03ac8ea69dcaa7c4e4ac371ba69232fb85a12d62311a7b8b0764af0387828", func := "wayfinder/wayfinderlaw10.BaseDisk", spec := "baseDisk", unfollowed := true, recurses := true, apart := false, narrowed := true }
def BaseDiskUptoSaid : Prop := baseDiskUptoRow.holds Tryz.pinned (OpenSpec.upto baseDiskSpec)

end Rows
end Go.Proofs.YtfleloeadbdbcaaGreat
