/- lives, closed: true in every world. -/
import Derived.Test.YteickelddnhdiaaAbAll2
import Derived.Test.YteickelddnhdiaaBase
namespace Go.Proofs.Yteickelddnhdiaa.Bk
open Go.RowKit
theorem names : Try.prog.funcs.toList.all (fun fn => !fn.body.isSome || !(fn.name == "runtime.NumGoroutine")) = true := by decide +kernel
theorem namesOK : Ab.NamesOK Try.prog := fun f fn hf hb => by
  have := List.all_eq_true.1 names fn (by rw [Array.mem_toList_iff]; exact Array.mem_of_getElem? hf)
  simpa [hb] using this
set_option maxRecDepth 100000 in
theorem livesRun : Ab.isTrue (Ab.run (Ab.callN Try.prog Ab.noExt 1000 (.fn 34) []) 1000 .leaf []) = true := by decide +kernel
def wayfinderlaw15_lives.f : Option Bool := some true
theorem wayfinderlaw15_lives.calls (r : Bool) (w : World) (h : wayfinderlaw15_lives.f = some r) :
    Calls Try.prog 34 #[] w fun e w' => e = .returned (.bool r) ∧ Below w.heap.size w w' := by
  cases h
  have h := livesRun
  cases hr : Ab.run (Ab.callN Try.prog Ab.noExt 1000 (.fn 34) []) 1000 .leaf [] with
  | bad => rw [hr] at h; cases h
  | ok v c h' lg =>
    rw [hr] at h
    have hv : v = .bool true := by
      unfold Ab.isTrue at h
      split at h
      · next e => injection e
      · cases h
    subst hv
    exact Ab.run_calls (by kernel_rfl) namesOK Ab.memoNil hr rfl rfl w
end Go.Proofs.Yteickelddnhdiaa.Bk
