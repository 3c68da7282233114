/- slices.Clone of a row, in the print's form. -/
import Derived.Test.YteickelddnhdiaaPartC
namespace Go.Proofs.Yteickelddnhdiaa.Bk
open Go.RowKit Go.Proofs.YteickelddnhdiaaW.PrintWords Go.Proofs.Yteickelddnhdiaa.G
set_option linter.unusedVariables false
def slices_Clone_int32_int32.f (l : List Int) : Option (List Int) := if l.length ≤ 1024 then some l else none
theorem Clone_nil (c0 : Nat) (w : World) : Calls Try.prog 94 #[.slice none 0 c0] w fun e w' => ∃ v, e = .returned v ∧ w'.ownsRow w.heap.size 21 1 v 0 (nums .i32 []) ∧ Below w.heap.size w w' := by
  have heq : ∀ W, (binOp .eql 39 (.slice none 0 c0) (.slice none 0 0)).run Try.prog W = .ok (.bool true) W := fun W => by kernel_rfl
  go_enter Try.func94, Try.ntmps94
  go_wp2
  go_ret
  exact ⟨_, rfl, World.ownsRow_nil _ _ _ _, Below.refl _ _⟩
theorem slices_Clone_int32_int32.calls (A0 : Option Addr) (c0 : Nat) (l0 : List Int) (r : List Int) (w : World) (hr0 : Kd.C (Kd.int .i32) w A0 l0.length l0) (hc0 : l0.length ≤ c0) (h : slices_Clone_int32_int32.f l0 = some r) :
    Calls Try.prog 94 #[.slice A0 l0.length c0] w fun e w' => ∃ v0_ : Value, e = .returned v0_ ∧ Kd.R (Kd.int .i32) 21 w' w.heap.size (fun _ => True) v0_ r ∧ Below w.heap.size w w' := by
  unfold slices_Clone_int32_int32.f at h
  split at h
  · next hl =>
    injection h with h
    subst h
    cases A0 with
    | some ad =>
      refine (Clone_row ad c0 l0.length l0 w hr0 (by omega)).mono ?_
      rintro e w' ⟨v, rfl, ho, hb⟩
      exact ⟨v, rfl, R_nums ho rfl, hb⟩
    | none =>
      have h0 : l0 = [] := by
        refine Classical.byContradiction fun hne => ?_
        obtain ⟨ad, e, _⟩ := C_ints hr0 0 (List.length_pos_iff.2 hne)
        cases e
      subst h0
      refine (Clone_nil c0 w).mono ?_
      rintro e w' ⟨v, rfl, ho, hb⟩
      exact ⟨v, rfl, R_nums ho rfl, hb⟩
  · cases h
end Go.Proofs.Yteickelddnhdiaa.Bk
