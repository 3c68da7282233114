/- Statement BookBack, plainly: bytes and books are each other's inverses. -/
import Derived.Test.YteickelddnhdiaaBookQ
import Derived.Test.YteickelddnhdiaaBookBy
import Derived.Test.YteickelddnhdiaaBookRd
import Derived.Test.YteickelddnhdiaaBookSm
namespace Go.Proofs.Yteickelddnhdiaa.Bk
open Go.RowKit Go.Proofs.YteickelddnhdiaaW.PrintWords Go.Proofs.YteickelddnhdiaaW.PrintLast Go.Proofs.Yteickelddnhdiaa.G
set_option linter.unusedVariables false
section
variable {b : List (List (List Int))} {n m : Nat}
theorem BookOK.flat1 (hb : BookOK b n m) : b.flatten.length = b.length * n := by
  have : ∀ L : List (List (List Int)), (∀ l ∈ L, l.length = n) → L.flatten.length = L.length * n := fun L => by
    induction L with
    | nil => intro _; simp
    | cons l L ih => intro h; rw [List.flatten_cons, List.length_append, ih (fun x hx => h x (by simp [hx])), h l (by simp), List.length_cons, Nat.add_mul, Nat.one_mul, Nat.add_comm]
  exact this b hb.parts
theorem BookOK.flat2 (hb : BookOK b n m) : b.flatten.flatten.length = b.length * n * m := by
  have : ∀ L : List (List Int), (∀ l ∈ L, l.length = m) → L.flatten.length = L.length * m := fun L => by
    induction L with
    | nil => intro _; simp
    | cons l L ih => intro h; rw [List.flatten_cons, List.length_append, ih (fun x hx => h x (by simp [hx])), h l (by simp), List.length_cons, Nat.add_mul, Nat.one_mul, Nat.add_comm]
  rw [this b.flatten (fun v hv => by obtain ⟨l, hl, hv⟩ := List.mem_flatten.1 hv; exact (hb.words l hl v hv).1), hb.flat1]
theorem shape_readB (X : List Int) (P n m : Nat) : (readB X P n m).length = P ∧ (∀ l ∈ readB X P n m, l.length = n) ∧ ∀ l ∈ readB X P n m, ∀ v ∈ l, v.length = m := by
  refine ⟨by simp [readB], fun l hl => ?_, fun l hl v hv => ?_⟩
  · obtain ⟨i, _, rfl⟩ := List.mem_map.1 hl
    simp [partR]
  · obtain ⟨i, _, rfl⟩ := List.mem_map.1 hl
    obtain ⟨k, _, rfl⟩ := List.mem_map.1 hv
    simp [rowR]
end
end Go.Proofs.Yteickelddnhdiaa.Bk
