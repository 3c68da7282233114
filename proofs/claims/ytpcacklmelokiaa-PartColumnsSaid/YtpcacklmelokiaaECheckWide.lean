/- vec.CheckWide, in the print's form. -/
import Derived.Test.YtpcacklmelokiaaVecB
namespace Go.Proofs.Ytpcacklmelokiaa.Pa
open Go.RowKit Go.Proofs.YtpcacklmelokiaaW.PrintWords Go.Proofs.Ytpcacklmelokiaa.G
set_option linter.unusedVariables false

def vec_CheckWide.f (l : List Int) : Option Int := some (checkWide l)
theorem vec_CheckWide.calls (A0 : Option Addr) (c0 : Nat) (l0 : List Int) (r : Int) (w : World) (hr0 : Kd.C (Kd.int .i32) w A0 l0.length l0) (hc0 : l0.length ≤ c0) (h : vec_CheckWide.f l0 = some r) :
    Calls Try.prog 56 #[.slice A0 l0.length c0] w fun e w' => e = .returned (.int .i64 r) ∧ Below w.heap.size w w' := by
  cases h
  exact CheckWide_calls A0 c0 l0 w hr0

end Go.Proofs.Ytpcacklmelokiaa.Pa
