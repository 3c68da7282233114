/- part.Cut, in the print's form. -/
import Derived.Test.YtpcacklmelokiaaPartC
namespace Go.Proofs.Ytpcacklmelokiaa.Pa
open Go.RowKit Go.Proofs.YtpcacklmelokiaaW.PrintWords Go.Proofs.Ytpcacklmelokiaa.G
set_option linter.unusedVariables false

def part_Cut.f (l : List Int) (a1 : Int) : Option (List (List Int) × Int) := some (cutL l a1, cutE l a1)
theorem part_Cut.calls (A0 : Option Addr) (c0 : Nat) (l0 : List Int) (a1 : Int) (r1 : List (List Int)) (r2 : Int) (w : World) (hr0 : Kd.C (Kd.int .i32) w A0 l0.length l0) (hc0 : l0.length ≤ c0) (h : part_Cut.f l0 a1 = some (r1, r2)) :
    Calls Try.prog 16 #[.slice A0 l0.length c0, .int .i64 a1] w fun e w' => ∃ v0_ : Value, e = .returned (.tuple #[v0_, .int .i64 r2]) ∧ Kd.R (Kd.slice 21 (Kd.int .i32)) 25 w' w.heap.size (fun _ => True) v0_ r1 ∧ Below w.heap.size w w' := by
  cases h
  exact Cut_calls A0 c0 l0 a1 w hr0 hc0

end Go.Proofs.Ytpcacklmelokiaa.Pa
