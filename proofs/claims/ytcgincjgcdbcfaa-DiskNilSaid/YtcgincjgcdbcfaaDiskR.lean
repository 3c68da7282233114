/- An act that came in. -/
import Derived.Test.YtcgincjgcdbcfaaDiskO
import Derived.ChangeSlices
import Derived.ChangeArms
import Derived.WideShapes
namespace Go.Proofs.Ytcgincjgcdbcfaa.G
open Go.RowKit Go.Proofs.YtcgincjgcdbcfaaW.PrintWords Go.ChangeShapes Go.WideShapes
set_option linter.unusedVariables false
theorem ints_in {H : Type} {enc : TypeId × Value → H} {W : World} {base fuel : Nat} {held : Bool} {cs : List Value} {x : DataW H × List MemPlace} {t e : TypeId} {k : IntKind} (ht : Try.prog.underlying t = some (.slice e)) (he : Try.prog.underlying e = some (.int k)) (hc : Try.prog.cellsOf e = 1)
    (h : DataW.trod enc Try.prog W base (fun _ => true) held fuel t cs = some x) : ∃ (A : Option Addr) (c : Nat) (l : List Int), cs = [.slice A l.length c] ∧ l.length ≤ c ∧ Kd.C (Kd.int k) W A l.length l := by
  rcases open_ints ht he hc h with ⟨hcs, _⟩ | ⟨a, len, cap, zs, hcs, _, hl, hm, hz, _, hcell, hwz⟩
  · exact ⟨none, 0, [], hcs, Nat.le_refl _, C_nil _ _⟩
  · obtain ⟨l, h1, h2, _⟩ := C_open hl hm (by simpa using hz) hcell hwz
    subst h1
    exact ⟨some a, cap, l, hcs, hl, h2⟩
set_option maxRecDepth 100000 in
theorem act_in {H : Type} {enc : TypeId × Value → H} {W : World} {base base' fuel : Nat} {held : Bool} {v : Value} {x : DataW H × List MemPlace} {r : Reach} (hv : Value.okWide Try.prog W r base' 46 v) (h : DataW.trod enc Try.prog W base (fun _ => true) held fuel 46 v.cells.toList = some x) :
    ∃ (a0 a1 a2 a3 : Int) (A4 : Option Addr) (c4 : Nat) (l4 : List Int) (A5 : Option Addr) (c5 : Nat) (l5 : List Int), v = .agg #[.int .i64 a0, .int .i64 a1, .int .i64 a2, .int .i64 a3, .slice A4 l4.length c4, .slice A5 l5.length c5] ∧ ActIn a0 a1 a2 a3 A4 c4 l4 A5 c5 l5 W := by
  obtain ⟨cs, rfl, hsz⟩ := okWide_struct Try.underlying46 hv
  have h6 : cs.size = 6 := hsz.trans (by kernel_rfl)
  obtain ⟨x0, x1, x2, x3, x4, x5, rfl⟩ : ∃ x0 x1 x2 x3 x4 x5, cs = #[x0, x1, x2, x3, x4, x5] := by
    rcases cs with ⟨l⟩
    match l, h6 with
    | [a, b, c, d, e, f], _ => exact ⟨a, b, c, d, e, f, rfl⟩
  obtain ⟨xs, n, _, _, _, hlen, hf⟩ := DataW.trod_struct Try.underlying46 h
  have e1 : Try.prog.cellsOf 3 = 1 := by kernel_rfl
  have e2 : Try.prog.cellsOf 2 = 1 := by kernel_rfl
  have e3 : Try.prog.cellsOf 29 = 1 := by kernel_rfl
  have e4 : Try.prog.cellsOf 36 = 1 := by kernel_rfl
  have hxl : xs.length = 6 := hlen
  have g : ∀ i : Nat, i < 6 → ∃ y, xs[i]? = some y := fun i hi => ⟨xs[i]'(by omega), List.getElem?_eq_getElem (by omega)⟩
  obtain ⟨y0, g0⟩ := g 0 (by omega)
  obtain ⟨y1, g1⟩ := g 1 (by omega)
  obtain ⟨y2, g2⟩ := g 2 (by omega)
  obtain ⟨y3, g3⟩ := g 3 (by omega)
  obtain ⟨y4, g4⟩ := g 4 (by omega)
  obtain ⟨y5, g5⟩ := g 5 (by omega)
  have t0 : DataW.trod enc Try.prog W base (fun _ => true) held n 3 [x0] = some y0 := by have := hf 0 _ rfl; rw [g0] at this; simpa [Value.cells, e1] using this
  have t1 : DataW.trod enc Try.prog W base (fun _ => true) held n 3 [x1] = some y1 := by have := hf 1 _ rfl; rw [g1] at this; simpa [Value.cells, e1] using this
  have t2 : DataW.trod enc Try.prog W base (fun _ => true) held n 3 [x2] = some y2 := by have := hf 2 _ rfl; rw [g2] at this; simpa [Value.cells, e1] using this
  have t3 : DataW.trod enc Try.prog W base (fun _ => true) held n 2 [x3] = some y3 := by have := hf 3 _ rfl; rw [g3] at this; simpa [Value.cells, e2] using this
  have t4 : DataW.trod enc Try.prog W base (fun _ => true) held n 29 [x4] = some y4 := by have := hf 4 _ rfl; rw [g4] at this; simpa [Value.cells, e3] using this
  have t5 : DataW.trod enc Try.prog W base (fun _ => true) held n 36 [x5] = some y5 := by have := hf 5 _ rfl; rw [g5] at this; simpa [Value.cells, e4] using this
  obtain ⟨a0, k0, _⟩ := DataW.trod_int Try.underlying3 t0
  obtain ⟨a1, k1, _⟩ := DataW.trod_int Try.underlying3 t1
  obtain ⟨a2, k2, _⟩ := DataW.trod_int Try.underlying3 t2
  obtain ⟨a3, k3, _⟩ := DataW.trod_int Try.underlying2 t3
  obtain ⟨A4, c4, l4, k4, h4, hK4⟩ := ints_in Try.underlying29 Try.underlying5 (by kernel_rfl) t4
  obtain ⟨A5, c5, l5, k5, h5, hK5⟩ := ints_in Try.underlying36 Try.underlying3 (by kernel_rfl) t5
  cases k0; cases k1; cases k2; cases k3; cases k4; cases k5
  exact ⟨a0, a1, a2, a3, A4, c4, l4, A5, c5, l5, rfl, hK4, h4, hK5, h5⟩
end Go.Proofs.Ytcgincjgcdbcfaa.G
