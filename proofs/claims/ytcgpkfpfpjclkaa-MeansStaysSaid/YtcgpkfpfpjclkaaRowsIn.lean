/- A slice of slices of int32 that came in, as a list of lists. -/
import Derived.Test.YtcgpkfpfpjclkaaBase
import Derived.Deep.Matrix
import Derived.WalkKit
import Derived.ProofKit
namespace Go.Proofs.Ytcgpkfpfpjclkaa.G
open Go.RowKit Go.Deep Go.Proofs.YtcgpkfpfpjclkaaW.PrintWords
set_option linter.unusedVariables false

theorem rows_in {H : Type} {enc : TypeId × Value → H} {W : World} {base fuel : Nat} {held : Bool} {A : Option Addr} {len cap : Nat} {x : DataW H × List MemPlace} (h : DataW.trod enc Try.prog W base (fun _ => true) held fuel 22 (Value.slice A len cap).cells.toList = some x) :
    ∃ l : List (List Int), len = l.length ∧ l.length ≤ cap ∧ Kd.C (Kd.slice 21 (Kd.int .i32)) W A l.length l := by
  rcases open_int_rows Try.underlying22 Try.underlying39 Try.underlying21 (by kernel_rfl) (by kernel_rfl) h with ⟨hcs, _⟩ | ⟨a, len', cap', A', L, C, Z, hcs, _, hl, hm, _, hrows⟩
  · simp [Value.cells] at hcs
    obtain ⟨rfl, rfl, rfl⟩ := hcs
    exact ⟨[], rfl, Nat.le_refl _, rfl, by simp, fun h => absurd h (Nat.lt_irrefl _)⟩
  · simp [Value.cells] at hcs
    obtain ⟨rfl, rfl, rfl⟩ := hcs
    refine ⟨(List.range len).map (fun r => (Z r).take (L r)), by simp, by simpa using hl, by simp, ?_, fun _ => ⟨a, rfl, fun j p hj => ?_⟩⟩
    · simp only [List.length_map, List.length_range]
      unfold maxLen at hm
      omega
    · obtain ⟨hj1, hj2⟩ := List.getElem?_eq_some_iff.1 hj
      simp only [List.length_map, List.length_range] at hj1
      simp only [List.getElem_map, List.getElem_range] at hj2
      obtain ⟨hc, hLC, hCm, hZ, _, hn, hcells⟩ := hrows j (by omega)
      have hpl : p.length = L j := by rw [← hj2, List.length_take]; omega
      refine ⟨[.slice (A' j) (L j) (C j)], rfl, ⟨A' j, C j, by rw [hpl], by omega, ?_⟩, fun i u hu => ?_⟩
      · rw [hpl]
        refine C_of_cells hpl (by unfold maxLen at hCm; omega) (fun hpos => ?_)
        cases hA : A' j with
        | none => have := hn hA; omega
        | some a' =>
          refine ⟨a', rfl, fun i hi => ?_⟩
          rw [(hcells a' hA).2 i (by omega), ← hj2]
          simp [List.getD_eq_getElem?_getD, List.getElem?_take_of_lt hi]
      · match i, hu with
        | 0, hu =>
          cases hu
          show W.cell? (a.add (j * 1 + 0)) = _
          simpa using hc

end Go.Proofs.Ytcgpkfpfpjclkaa.G
