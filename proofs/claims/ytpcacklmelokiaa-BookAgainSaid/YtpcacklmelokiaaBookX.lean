/- The walk of BookAgain with its plain law. -/
import Derived.Test.YtpcacklmelokiaaBookT
import Derived.Test.YtpcacklmelokiaaBookS
namespace Go.Proofs.Ytpcacklmelokiaa.G
open Go.RowKit Go.Proofs.Ytpcacklmelokiaa.Bk Go.Proofs.YtpcacklmelokiaaW.PrintWords
set_option linter.unusedVariables false
theorem BookAgain_c (A0 : Option Addr) (c0 : Nat) (b : List (List (List Int))) (A1 : Option Addr) (c1 : Nat) (code : List Int) (w : World)
    (hr0 : Kd.C (Kd.slice 25 (Kd.slice 21 (Kd.int .i32))) w A0 b.length b) (hr1 : Kd.C (Kd.int .u8) w A1 code.length code)
    (hw1 : ∀ x ∈ code, (Lit.int .u8 x).wf = true) (q0 : b.length ≤ c0) (q1 : code.length ≤ c1 ∧ c1 ≤ 9223372036854775807) :
    Calls Try.prog 9 #[.agg #[.slice A0 b.length c0], .slice A1 code.length c1] w fun e w' => e = .returned (.bool true) ∧ Below w.heap.size w w' := by
  obtain ⟨k, h⟩ := Ev.rounds (BookAgain_is b code fun x hx => wf_u8 (hw1 x hx))
  exact wayfinderlaw15_BookAgain.calls k A0 c0 b A1 c1 code true w hr0 q0 hr1 q1.1 h
end Go.Proofs.Ytpcacklmelokiaa.G
