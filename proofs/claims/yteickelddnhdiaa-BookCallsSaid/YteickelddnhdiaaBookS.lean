/- A book that came in, as a list of lists of lists. -/
import Derived.Test.YteickelddnhdiaaBase
import Derived.Deep.Matrix
import Derived.WalkKit
import Derived.ProofKit
import Derived.ChangeSame
import Derived.ChangeSlices
namespace Go.Proofs.Yteickelddnhdiaa.G
open Go.RowKit Go.Deep Go.Proofs.YteickelddnhdiaaW.PrintWords
set_option linter.unusedVariables false

theorem rows_in {H : Type} {enc : TypeId × Value → H} {W : World} {base fuel : Nat} {held : Bool} {A : Option Addr} {len cap : Nat} {x : DataW H × List MemPlace} (h : DataW.trod enc Try.prog W base (fun _ => true) held fuel 22 (Value.slice A len cap).cells.toList = some x) :
    ∃ l : List (List Int), len = l.length ∧ l.length ≤ cap ∧ Kd.C (Kd.slice 21 (Kd.int .i32)) W A l.length l := by
  rcases open_int_rows Try.underlying22 Try.underlying39 Try.underlying21 (by kernel_rfl) (by kernel_rfl) h with ⟨hcs, _⟩ | ⟨a, len', cap', A', L, C, Z, hcs, _, hl, hm, _, hrows⟩
  · simp [Value.cells] at hcs
    obtain ⟨rfl, rfl, rfl⟩ := hcs
    exact ⟨[], rfl, Nat.le_refl _, rfl, by simp, fun h => absurd h (Nat.lt_irrefl _)⟩
  · simp [Value.cells] at hcs
    obtain ⟨rfl, rfl, rfl⟩ := hcs
    refine ⟨(List.range len).map (fun r => (Z r).take (L r)), by simp, by simpa using hl, by simp, ?_, fun _ => ⟨a, rfl, fun j p hj => ?_⟩⟩
    · simp only [List.length_map, List.length_range]
      unfold maxLen at hm
      omega
    · obtain ⟨hj1, hj2⟩ := List.getElem?_eq_some_iff.1 hj
      simp only [List.length_map, List.length_range] at hj1
      simp only [List.getElem_map, List.getElem_range] at hj2
      obtain ⟨hc, hLC, hCm, hZ, _, hn, hcells⟩ := hrows j (by omega)
      have hpl : p.length = L j := by rw [← hj2, List.length_take]; omega
      refine ⟨[.slice (A' j) (L j) (C j)], rfl, ⟨A' j, C j, by rw [hpl], by omega, ?_⟩, fun i u hu => ?_⟩
      · rw [hpl]
        refine C_of_cells hpl (by unfold maxLen at hCm; omega) (fun hpos => ?_)
        cases hA : A' j with
        | none => have := hn hA; omega
        | some a' =>
          refine ⟨a', rfl, fun i hi => ?_⟩
          rw [(hcells a' hA).2 i (by omega), ← hj2]
          simp [List.getD_eq_getElem?_getD, List.getElem?_take_of_lt hi]
      · match i, hu with
        | 0, hu =>
          cases hu
          show W.cell? (a.add (j * 1 + 0)) = _
          simpa using hc

end Go.Proofs.Yteickelddnhdiaa.G

namespace Go.Proofs.Yteickelddnhdiaa.G
open Go.RowKit Go.Deep Go.Proofs.YteickelddnhdiaaW.PrintWords Go.ChangeShapes Go.WideShapes
set_option linter.unusedVariables false
set_option maxRecDepth 100000

theorem rows3_in {H : Type} {enc : TypeId × Value → H} {W : World} {base fuel : Nat} {held : Bool} {cs : List Value} {x : DataW H × List MemPlace} (h : DataW.trod enc Try.prog W base (fun _ => true) held fuel 51 cs = some x) :
    ∃ (A : Option Addr) (c : Nat) (l : List (List (List Int))), cs = [.slice A l.length c] ∧ l.length ≤ c ∧ Kd.C (Kd.slice 39 (Kd.slice 21 (Kd.int .i32))) W A l.length l := by
  rcases DataW.trod_slice Try.underlying51 h with ⟨rfl, _⟩ | ⟨a, len, cap, elems, rest, n, _, rfl, _, hb, hl, hm, hlen, hel, _, _⟩
  · exact ⟨none, 0, [], rfl, Nat.le_refl _, rfl, by simp, fun h => absurd h (Nat.lt_irrefl _)⟩
  · have hc1 : Try.prog.cellsOf 22 = 1 := by kernel_rfl
    have each : ∀ i, i < len → ∃ (A' : Option Addr) (C : Nat) (li : List (List Int)), W.cell? (a.add i) = some (.slice A' li.length C) ∧ li.length ≤ C ∧ Kd.C (Kd.slice 21 (Kd.int .i32)) W A' li.length li := fun i hi => by
      have h1 := hel i hi
      rw [List.getElem?_eq_getElem (by omega), Option.bind_eq_some_iff, hc1, Nat.mul_one] at h1
      obtain ⟨cs', hcs, hy⟩ := h1
      obtain ⟨A', L, C, rfl⟩ : ∃ A' L C, cs' = [.slice A' L C] := by
        rcases DataW.trod_slice Try.underlying22 hy with ⟨rfl, _⟩ | ⟨a', len', cap', _, _, _, _, rfl, _⟩
        · exact ⟨_, _, _, rfl⟩
        · exact ⟨_, _, _, rfl⟩
      obtain ⟨li, rfl, h2, h3⟩ := rows_in (A := A') (len := L) (cap := C) (by simpa [Value.cells] using hy)
      exact ⟨A', C, li, cell_of_cells?_one hcs, h2, h3⟩
    have each' : ∀ i, ∃ li : List (List Int), i < len → ∃ (A' : Option Addr) (C : Nat), W.cell? (a.add i) = some (.slice A' li.length C) ∧ li.length ≤ C ∧ Kd.C (Kd.slice 21 (Kd.int .i32)) W A' li.length li := fun i => by
      by_cases hi : i < len
      · obtain ⟨A', C, li, h⟩ := each i hi
        exact ⟨li, fun _ => ⟨A', C, h⟩⟩
      · exact ⟨[], fun h => absurd h hi⟩
    obtain ⟨li, spec⟩ := Classical.axiomOfChoice each'
    refine ⟨some a, cap, (List.range len).map li, by simp, by simpa using hl, by simp, ?_, fun _ => ⟨a, rfl, fun j p hj => ?_⟩⟩
    · simp only [List.length_map, List.length_range]
      unfold maxLen at hm
      omega
    · obtain ⟨hj1, hj2⟩ := List.getElem?_eq_some_iff.1 hj
      simp only [List.length_map, List.length_range] at hj1
      simp only [List.getElem_map, List.getElem_range] at hj2
      subst hj2
      obtain ⟨A', C, hc, hle, hK⟩ := spec j hj1
      refine ⟨[.slice A' (li j).length C], rfl, ⟨A', C, rfl, hle, hK⟩, fun i u hu => ?_⟩
      match i, hu with
      | 0, hu =>
        cases hu
        show W.cell? (a.add (j * 1 + 0)) = _
        simpa using hc
theorem book_in {H : Type} {enc : TypeId × Value → H} {W : World} {base base' fuel : Nat} {held : Bool} {v : Value} {x : DataW H × List MemPlace} {r : Reach} (hv : Value.okWide Try.prog W r base' 53 v) (h : DataW.trod enc Try.prog W base (fun _ => true) held fuel 53 v.cells.toList = some x) :
    ∃ (A : Option Addr) (c : Nat) (l : List (List (List Int))), v = .agg #[.slice A l.length c] ∧ l.length ≤ c ∧ Kd.C (Kd.slice 39 (Kd.slice 21 (Kd.int .i32))) W A l.length l := by
  obtain ⟨cs, rfl, hsz⟩ := okWide_struct Try.underlying53 hv
  have h1 : cs.size = 1 := hsz.trans (by kernel_rfl)
  obtain ⟨c, rfl⟩ : ∃ c, cs = #[c] := Array.size_eq_one_iff.1 h1
  obtain ⟨y0, n, _, _, hf⟩ := trod_struct1 Try.underlying53 h
  have e : (((Value.agg #[c]).cells.toList.drop 0).take (Try.prog.cellsOf 51)) = [c] := by
    have h2 : Try.prog.cellsOf 51 = 1 := by kernel_rfl
    rw [h2]
    simp [Value.cells]
  change DataW.trod enc Try.prog W base (fun _ => true) held n 51 (((Value.agg #[c]).cells.toList.drop 0).take (Try.prog.cellsOf 51)) = some y0 at hf
  rw [e] at hf
  obtain ⟨A, c', l, hcs, hle, hK⟩ := rows3_in hf
  cases hcs
  exact ⟨A, c', l, rfl, hle, hK⟩
end Go.Proofs.Yteickelddnhdiaa.G
