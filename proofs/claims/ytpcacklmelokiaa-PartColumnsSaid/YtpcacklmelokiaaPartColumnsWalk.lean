/- The walk of PartColumns, as its row takes it. -/
import Derived.Test.YtpcacklmelokiaaPartColumns
import Derived.Test.YtpcacklmelokiaaRowsIn
namespace Go.Proofs.Ytpcacklmelokiaa.Pure
open Go.RowKit Go.Proofs.Ytpcacklmelokiaa.Pa Go.Proofs.YtpcacklmelokiaaW.PrintWords Go.Proofs.Ytpcacklmelokiaa.G
set_option linter.unusedVariables false

theorem PartColumns_walk (a0 : Option Addr) (len0 cap0 : Nat) (l0 : List (List Int)) {w : World} (w0 : len0 = l0.length ∧ l0.length ≤ cap0 ∧ Kd.C (Kd.slice 21 (Kd.int .i32)) w a0 l0.length l0) (a1 : Int) (w1 : (Lit.int .i64 a1).wf = true) (W : World) (hW : w = W) :
    Calls Try.prog 3 #[.slice a0 len0 cap0, .int .i64 a1] W fun e w' => e = .returned (.bool true) ∧ Below W.heap.size W w' := by
  subst hW
  obtain ⟨rfl, hc0, hr0⟩ := w0
  exact PartColumns_c a0 cap0 l0 a1 w1 w hr0 hc0

end Go.Proofs.Ytpcacklmelokiaa.Pure
