/- The law BaseNames returns true; no condition. -/
import Derived.Test.YtfleloeadbdbcaaGreatRows
import Derived.Test.YtfleloeadbdbcaaGreatAbW
import Derived.Test.YtfleloeadbdbcaaGreatAbMemo
import Derived.Test.YtfleloeadbdbcaaGreatAbNames
import Derived.WalkKit
import Derived.ProofKit
import Derived.OpenShut
import Derived.ShutString
import Derived.ChangeOld
import Derived.Below
import Derived.SizedLaws
namespace Go.Proofs.YtfleloeadbdbcaaGreat.baseNames
open Go.ChangeShapes Go.WideShapes Go.ChangeAt Go.RowKit
set_option linter.unusedVariables false
theorem own : ownKnob Tryz.prog.godebug = none := by kernel_rfl
theorem names : Tryz.prog.funcs.toList.all (fun fn => !fn.body.isSome || !(fn.name == "runtime.NumGoroutine")) = true := by decide +kernel
theorem namesOK : Ab.NamesOK Tryz.prog := fun f fn hf hb => by
  have := List.all_eq_true.1 names fn (by rw [Array.mem_toList_iff]; exact Array.mem_of_getElem? hf)
  simpa [hb] using this
set_option maxRecDepth 100000 in
theorem runs : Ab.isTrue (Ab.run (Ab.callN Tryz.prog (Ab.orExt M.memo N.ext) 1000 (.fn 4) []) 1000 .leaf []) = true := by decide +kernel
theorem calls (w : World) : Calls Tryz.prog 4 #[] w fun e w' => e = .returned (.bool true) ∧ Below w.heap.size w w' := by
  have h := runs
  cases hr : Ab.run (Ab.callN Tryz.prog (Ab.orExt M.memo N.ext) 1000 (.fn 4) []) 1000 .leaf [] with
  | bad => rw [hr] at h; cases h
  | ok v c h' lg =>
    rw [hr] at h
    have hv : v = .bool true := by
      unfold Ab.isTrue at h
      split at h
      · next e => injection e
      · cases h
    subst hv
    exact Ab.run_calls (by kernel_rfl) namesOK (Ab.orExt_ok M.memoOK N.extOK) hr rfl rfl w
set_option maxRecDepth 100000 in
theorem lifted (os : Os) (started : os.Started) (H : Type) (enc : TypeId × Value → H) :
    ReturnsInHanded {} Tryz.checked os 4 .any (Rows.baseNamesSpec.pre6 enc Tryz.prog Tryz.f4 Rows.baseNamesRow.domain false) (Rows.baseNamesSpec.post enc Tryz.prog Tryz.f4 false true false false) := by
  refine returnsInHanded_of_change_sized (C := Tryz.checked) own started (by kernel_rfl) Tryz.func4
    (ChangeSpec.witness6 (enc := enc) (C := Tryz.checked) false ⟨#[], #[], []⟩ 8 (by kernel_rfl) (by kernel_rfl) (by kernel_rfl) (by kernel_rfl)) ?_
  intro W base args ds gs before hval0 hW hcnd hsz0 _
  have hW' := hW
  obtain ⟨p, q, hA0, hV, rfl, hfz, hnd⟩ := hW
  have hA : DataW.TrodAll enc Tryz.prog W 0 (fun _ => true) true Tryz.f4.params.toList args.toList ds p := hA0
  rw [Tryz.params4] at hA
  obtain ⟨rfl, rfl, rfl⟩ := trodAll_none hA
  obtain ⟨rfl, rfl⟩ := trodVars_none hV
  refine (calls W).mono fun e W' ⟨he, bel⟩ => ?_
  subst he
  exact ⟨_, rfl, _, _, _, [], _, [], hW', trodAll_mk1 (shut_bool Tryz.underlying4 _), trodAll_mk0, rfl, bel.frame _, fun h => by cases h⟩
theorem over : Rows.baseNamesRow.holds Tryz.pinned (OpenSpec.ofChange Rows.baseNamesSpec) :=
  OpenClaim.holds_of_wide 4 Tryz.f4 rfl rfl rfl rfl rfl rfl rfl ⟨rfl, rfl, rfl, rfl, rfl⟩ rfl rfl rfl rfl rfl (by kernel_rfl) Tryz.func4 (by kernel_rfl)
    (of_decide_eq_true (by kernel_rfl)) (by unfold Func.isWrapper; first | (rw [if_pos (by decide +kernel)]; kernel_rfl) | (rw [if_neg (by decide +kernel)]; exact ⟨rfl, rfl⟩))
    (fun os started H enc _ => lifted os started H enc)
theorem proved : Rows.BaseNamesSaid := over
#print axioms proved
end Go.Proofs.YtfleloeadbdbcaaGreat.baseNames
namespace Go.Proofs.YtfleloeadbdbcaaGreat
/-- The row, under a short name, for the claim. -/
theorem baseNames_holds : Rows.BaseNamesSaid := baseNames.proved
end Go.Proofs.YtfleloeadbdbcaaGreat
