/- The walk of PartCalls with its plain law. -/
import Derived.Test.YticpdlaiindlfaaPurePartCalls
import Derived.Test.YticpdlaiindlfaaRowsIn
namespace Go.Proofs.Yticpdlaiindlfaa.Pure
open Go.RowKit Go.Proofs.Yticpdlaiindlfaa.Pa Go.Proofs.YticpdlaiindlfaaW.PrintWords Go.Proofs.Yticpdlaiindlfaa.G
set_option linter.unusedVariables false

theorem PartCalls_walk (a0 : Option Addr) (len0 cap0 : Nat) (z0 : List Int) {w : World} (w0 : (a0 = none ∧ len0 = 0 ∧ cap0 = 0 ∧ z0 = []) ∨ ∃ x, a0 = some x ∧ len0 ≤ cap0 ∧ cap0 ≤ maxLen ∧ z0.length = cap0 ∧ (∀ i, i < z0.length → w.cell? (x.add i) = some (.int .i32 (z0.getD i 0))) ∧ ∀ n ∈ z0, (Lit.int .i32 n).wf = true) (y0 : len0 * 4 ≤ 140737488351232) (a1 : Option Addr) (len1 cap1 : Nat) (z1 : List Int) (w1 : (a1 = none ∧ len1 = 0 ∧ cap1 = 0 ∧ z1 = []) ∨ ∃ x, a1 = some x ∧ len1 ≤ cap1 ∧ cap1 ≤ maxLen ∧ z1.length = cap1 ∧ (∀ i, i < z1.length → w.cell? (x.add i) = some (.int .i32 (z1.getD i 0))) ∧ ∀ n ∈ z1, (Lit.int .i32 n).wf = true) (y1 : len1 * 4 ≤ 140737488351232) (a2 : Option Addr) (len2 cap2 : Nat) (l2 : List (List Int)) (w2 : len2 = l2.length ∧ l2.length ≤ cap2 ∧ Kd.C (Kd.slice 21 (Kd.int .i32)) w a2 l2.length l2) (a3 : Int) (w3 : (Lit.int .i64 a3).wf = true) (a4 : Int) (w4 : (Lit.int .i64 a4).wf = true) (W : World) (hW : w = W) :
    Calls Try.prog 13 #[.slice a0 len0 cap0, .slice a1 len1 cap1, .slice a2 len2 cap2, .int .i64 a3, .int .i64 a4] W fun e w' => e = .returned (.bool true) ∧ Below W.heap.size W w' := by
  subst hW
  obtain ⟨l0, rfl, hr0, hm0, hw0, hc0⟩ := ReadsInt.ofRowC w0
  obtain ⟨l1, rfl, hr1, hm1, hw1, hc1⟩ := ReadsInt.ofRowC w1
  obtain ⟨rfl, hc2, hr2⟩ := w2
  obtain ⟨k, h⟩ := PartCalls l0 l1 l2 a3 a4
  refine (wayfinderlaw14_PartCalls.calls k _ _ l0 _ _ l1 _ _ l2 a3 a4 true w (Kd.C_of_reads (d := (0 : Int)) (h1 := fun _ => rfl) hr0) hc0 (Kd.C_of_reads (d := (0 : Int)) (h1 := fun _ => rfl) hr1) hc1 hr2 hc2 h).mono ?_
  rintro e w' ⟨rfl, hd⟩
  exact ⟨rfl, hd⟩

end Go.Proofs.Yticpdlaiindlfaa.Pure
