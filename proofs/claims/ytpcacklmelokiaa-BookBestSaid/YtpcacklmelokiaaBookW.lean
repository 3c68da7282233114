/- The walk of BookBest with its plain law. -/
import Derived.Test.YtpcacklmelokiaaBookR
import Derived.Test.YtpcacklmelokiaaBookS
namespace Go.Proofs.Ytpcacklmelokiaa.G
open Go.RowKit Go.Proofs.Ytpcacklmelokiaa.Bk Go.Proofs.YtpcacklmelokiaaW.PrintWords
set_option linter.unusedVariables false
theorem BookBest_c (A0 : Option Addr) (c0 : Nat) (b : List (List (List Int))) (A1 : Option Addr) (c1 : Nat) (v : List Int) (A2 : Option Addr) (c2 : Nat) (code : List Int) (w : World)
    (hr0 : Kd.C (Kd.slice 25 (Kd.slice 21 (Kd.int .i32))) w A0 b.length b) (hr1 : Kd.C (Kd.int .i32) w A1 v.length v) (hr2 : Kd.C (Kd.int .u8) w A2 code.length code)
    (hw1 : ∀ x ∈ v, (Lit.int .i32 x).wf = true) (hw2 : ∀ x ∈ code, (Lit.int .u8 x).wf = true) (q0 : b.length ≤ c0) (q1 : v.length ≤ c1 ∧ c1 ≤ 9223372036854775807) (q2 : code.length ≤ c2 ∧ c2 ≤ 9223372036854775807) :
    Calls Try.prog 8 #[.agg #[.slice A0 b.length c0], .slice A1 v.length c1, .slice A2 code.length c2] w fun e w' => e = .returned (.bool true) ∧ Below w.heap.size w w' := by
  obtain ⟨k, h⟩ := Ev.rounds (BookBest_is b v code fun x hx => wf_u8 (hw2 x hx))
  exact wayfinderlaw15_BookBest.calls k A0 c0 b A1 c1 v A2 c2 code true w hr0 q0 hr1 q1.1 hr2 q2.1 h
end Go.Proofs.Ytpcacklmelokiaa.G
