/- The training's lives (closed: true in every world), and train.Turned, in the print's form. -/
import Derived.Test.YteickelddnhdiaaAbAll2
import Derived.Test.YteickelddnhdiaaConcat64
namespace Go.Proofs.Yteickelddnhdiaa.Tr
open Go.RowKit Go.Proofs.YteickelddnhdiaaW.PrintWords Go.Proofs.Yteickelddnhdiaa.G
def train_Turned.f (l : List Int) (s : Int) : Option (List Int) := if l.length ≤ 1000000 then some (turnedL l s) else none
theorem train_Turned.calls (A0 : Option Addr) (c0 : Nat) (l0 : List Int) (a1 : Int) (r1 : List Int) (w : World) (hr0 : Kd.C (Kd.int .u64) w A0 l0.length l0) (hc0 : l0.length ≤ c0) (h : train_Turned.f l0 a1 = some r1) :
    Calls Try.prog 59 #[.slice A0 l0.length c0, .int .i64 a1] w fun e w' => ∃ v0_ : Value, e = .returned v0_ ∧ Kd.R (Kd.int .u64) 76 w' w.heap.size (fun _ => True) v0_ r1 ∧ Below w.heap.size w w' := by
  unfold train_Turned.f at h
  split at h
  · next hl => cases h; exact Turned_calls A0 c0 l0 a1 w hr0 hc0 hl
  · cases h
theorem names : Try.prog.funcs.toList.all (fun fn => !fn.body.isSome || !(fn.name == "runtime.NumGoroutine")) = true := by decide +kernel
theorem namesOK : Ab.NamesOK Try.prog := fun f fn hf hb => by
  have := List.all_eq_true.1 names fn (by rw [Array.mem_toList_iff]; exact Array.mem_of_getElem? hf)
  simpa [hb] using this
set_option maxRecDepth 100000 in
theorem livesRun : Ab.isTrue (Ab.run (Ab.callN Try.prog Ab.noExt 1000 (.fn 58) []) 1000 .leaf []) = true := by decide +kernel
def wayfinderlaw22_lives.f : Option Bool := some true
theorem wayfinderlaw22_lives.calls (r : Bool) (w : World) (h : wayfinderlaw22_lives.f = some r) :
    Calls Try.prog 58 #[] w fun e w' => e = .returned (.bool r) ∧ Below w.heap.size w w' := by
  cases h
  have h := livesRun
  cases hr : Ab.run (Ab.callN Try.prog Ab.noExt 1000 (.fn 58) []) 1000 .leaf [] with
  | bad => rw [hr] at h; cases h
  | ok v c h' lg =>
    rw [hr] at h
    have hv : v = .bool true := by
      unfold Ab.isTrue at h
      split at h
      · next e => injection e
      · cases h
    subst hv
    exact Ab.run_calls (by kernel_rfl) namesOK Ab.memoNil hr rfl rfl w
end Go.Proofs.Yteickelddnhdiaa.Tr
