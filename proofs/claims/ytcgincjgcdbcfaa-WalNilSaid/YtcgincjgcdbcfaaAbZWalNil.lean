/- The law WalNil returns true; its arguments are never looked at. -/
import Derived.Test.YtcgincjgcdbcfaaRows
import Derived.Test.YtcgincjgcdbcfaaAbX
import Derived.Test.YtcgincjgcdbcfaaAbMemo
import Derived.WalkKit
import Derived.ProofKit
import Derived.OpenShut
import Derived.ShutString
import Derived.ChangeOld
import Derived.Below
import Derived.SizedLaws
namespace Go.Proofs.Ytcgincjgcdbcfaa.walNil
open Go.ChangeShapes Go.WideShapes Go.ChangeAt Go.RowKit
set_option linter.unusedVariables false
theorem own : ownKnob Try.prog.godebug = none := by kernel_rfl
theorem names : Try.prog.funcs.toList.all (fun fn => !fn.body.isSome || !(fn.name == "runtime.NumGoroutine")) = true := by decide +kernel
theorem namesOK : Ab.NamesOK Try.prog := fun f fn hf hb => by
  have := List.all_eq_true.1 names fn (by rw [Array.mem_toList_iff]; exact Array.mem_of_getElem? hf)
  simpa [hb] using this
set_option maxRecDepth 100000 in
theorem runs (A0 : Option Addr) (l0 c0 : Nat) (x1 : Int) : Ab.isTrue (Ab.run (Ab.callN Try.prog M.memo 1000 (.fn 10) [.slice A0 l0 c0, .int .u64 x1]) 1000 .leaf []) = true := by kernel_rfl
set_option maxRecDepth 100000 in
theorem laidOut : laidOutB Try.prog = true := by kernel_rfl
set_option maxRecDepth 100000 in
theorem calls (w : World) (base : Nat) (v0 : Value) (x1 : Int) (z0 : Value.okWide Try.prog w .any base 29 v0) : Calls Try.prog 10 #[v0, .int .u64 x1] w fun e w' => e = .returned (.bool true) ∧ Below w.heap.size w w' := by
  obtain ⟨A0, B0, l0, c0, y0, rfl, u0, d0⟩ := Ab.okWide_opaque 0 Try.underlying29 z0
  have h := runs A0 l0 c0 x1
  cases hr : Ab.run (Ab.callN Try.prog M.memo 1000 (.fn 10) [.slice A0 l0 c0, .int .u64 x1]) 1000 .leaf [] with
  | bad => rw [hr] at h; cases h
  | ok v c h' lg =>
    rw [hr] at h
    have hv : v = .bool true := by
      unfold Ab.isTrue at h
      split at h
      · next e => injection e
      · cases h
    subst hv
    exact Ab.run_calls_at (by kernel_rfl) namesOK M.memoOK hr rfl w (m := fun n => if n = 0 then y0 else none)
      (fun n hn => by rw [if_neg (by omega)]) (fun n i hi => by
      by_cases e0 : n = 0
      · rw [if_pos e0] at hi; exact d0 i hi
      rw [if_neg e0] at hi
      cases hi) (.cons (u0 _ (by simp)) (.cons (.int _ _) (.nil)))
set_option maxRecDepth 100000 in
theorem lifted (os : Os) (started : os.Started) (H : Type) (enc : TypeId × Value → H) :
    ReturnsInHanded {} Try.checked os 10 .any (Rows.walNilSpec.pre6 enc Try.prog Try.f10 Rows.walNilRow.domain false) (Rows.walNilSpec.post enc Try.prog Try.f10 false true false false) := by
  refine returnsInHanded_of_change_sized (C := Try.checked) own started (by kernel_rfl) Try.func10
    (ChangeSpec.witness6 (enc := enc) (C := Try.checked) false ⟨#[], #[.slice none 0 0, .int .u64 0], []⟩ 8 (by kernel_rfl) (by kernel_rfl) (by kernel_rfl) (by kernel_rfl)) ?_
  intro W base args ds gs before hval0 hW hcnd hsz0 _
  have hval : ∀ (j : Nat) t v, Try.f10.params[j]? = some t → args[j]? = some v → Value.okWide Try.prog W .any base t v := hval0
  have hW' := hW
  obtain ⟨p, q, hA0, hV, rfl, hfz, hnd⟩ := hW
  have hA : DataW.TrodAll enc Try.prog W 0 (fun _ => true) true Try.f10.params.toList args.toList ds p := hA0
  rw [Try.params10] at hA hval
  obtain ⟨v0, vs0, d0, ds0, p0, q0, hargs, rfl, rfl, h0, r0⟩ := trodAll_cons hA
  obtain ⟨v1, vs1, d1, ds1, p1, q1, rfl, rfl, rfl, h1, r1⟩ := trodAll_cons r0
  obtain ⟨rfl, rfl, rfl⟩ := trodAll_nil r1
  obtain rfl : args = #[v0, v1] := by cases args; simp_all
  obtain ⟨rfl, rfl⟩ := trodVars_none hV
  have z0 := hval 0 29 v0 rfl rfl
  have lt0 : ∀ x ∈ p0, x.block < W.heap.size := by obtain ⟨m, hm⟩ := h0; exact DataW.trod_lt m _ _ _ hm
  obtain ⟨a1, rfl, rfl, rfl, w1⟩ := open_int Try.underlying72 (hval 1 72 v1 rfl rfl) h1
  clear hval0 hsz0
  refine (calls W _ v0 a1 z0).mono fun e W' ⟨he, bel⟩ => ?_
  subst he
  exact ⟨_, rfl, _, _, _, [], _, [], hW', trodAll_mk1 (shut_bool Try.underlying4 _), (trodAll_cons_mk (Below.trod laidOut (by kernel_rfl) (of_decide_eq_true (by kernel_rfl)) h0 bel lt0) (trodAll_cons_mk (shut_int Try.underlying72 w1) trodAll_mk0)), rfl, bel.frame _, fun h => by cases h⟩
theorem over : Rows.walNilRow.holds Try.pinned (OpenSpec.ofChange Rows.walNilSpec) :=
  OpenClaim.holds_of_wide 10 Try.f10 rfl rfl rfl rfl rfl rfl rfl ⟨rfl, rfl, rfl, rfl, rfl⟩ rfl rfl rfl rfl rfl (by kernel_rfl) Try.func10 (by kernel_rfl)
    (of_decide_eq_true (by kernel_rfl)) (by unfold Func.isWrapper; first | (rw [if_pos (by decide +kernel)]; kernel_rfl) | (rw [if_neg (by decide +kernel)]; exact ⟨rfl, rfl⟩))
    (fun os started H enc _ => lifted os started H enc)
theorem proved : Rows.WalNilSaid := over
#print axioms proved
end Go.Proofs.Ytcgincjgcdbcfaa.walNil
namespace Go.Proofs.Ytcgincjgcdbcfaa
/-- The row, under a short name, for the claim. -/
theorem walNil_holds : Rows.WalNilSaid := walNil.proved
end Go.Proofs.Ytcgincjgcdbcfaa
