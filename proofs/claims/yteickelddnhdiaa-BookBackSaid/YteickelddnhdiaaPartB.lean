/- A box that holds a slice of own rows: it lives through what an iterator does. -/
import Derived.Test.YteickelddnhdiaaPartA
namespace Go.Proofs.Yteickelddnhdiaa.G
open Go.RowKit Go.Shelf Go.Proofs.YteickelddnhdiaaW.PrintWords
set_option linter.unusedVariables false
set_option linter.unusedSimpArgs false

theorem R_notCells {α : Type} {d : Kd α} {e : Nat} {X Y : World} {base : Nat} {v : Value} {xs : List α} {row : Option Nat} (h : d.R e X base (fun _ => True) v xs) (hg : X.grownBy Y row) (hrow : ∀ r, row = some r → ∃ o : Obj, X.heap[r]? = some o ∧ o.isCells = false) : d.R e Y base (fun _ => True) v xs := by
  have h2 := Kd.R_bound h
  refine Kd.R_mono (Kd.R_grown h2 hg ?_) (fun _ _ => trivial)
  intro k hk he
  obtain ⟨_, _, _, q, hq, cells', hc⟩ := hk
  obtain ⟨o, ho, hn⟩ := hrow k he.symm
  rw [hc] at ho
  cases ho
  cases hn
theorem holdsR_own {α β : Type} (d : Kd α) (base B : Nat) (t e : TypeId) (f : β → List α) : Own (fun s W => ∃ v, Boxed W B t v ∧ d.R e W base (fun _ => True) v (f s)) := by
  rintro s X Y row ⟨v, hv, hr⟩ hg hrow
  refine ⟨v, hv.kept hg (fun e' => ?_), R_notCells hr hg hrow⟩
  obtain ⟨o, ho, hc⟩ := hrow B e'.symm
  rw [show X.heap[B]? = _ from hv] at ho
  cases ho
  cases hc

/-- append(v, row) of one own row, as an equation. -/
theorem appR_run (base : Nat) (W : World) (v : Value) (xs : List (List Int)) (x : Value) (p : List Int) (hx : (Kd.int .i32).R 21 W base (fun k => some k ≠ v.ownBlock) x p) (HO : (Kd.slice 21 (Kd.int .i32)).R 39 W base (fun _ => True) v xs)
    (hl : (xs.length + 1) * 24 ≤ 140737488355328) (hbase : base ≤ W.heap.size) :
    ∃ v1 w1, (Builtin.append_ #[22, 22] 22 #[v, .slice (some ⟨W.heap.size, 0, none⟩) 1 1]).run Try.prog (W.alloc (.cells #[x] 39)) = .ok v1 w1 ∧ (Kd.slice 21 (Kd.int .i32)).R 39 w1 base (fun _ => True) v1 (xs ++ [p]) ∧ (W.alloc (.cells #[x] 39)).grownBy w1 v.ownBlock ∧ (v1.ownBlock = v.ownBlock ∨ v1.ownBlock = some (W.heap.size + 1)) := by
  have hinfo : (Try.prog.info? 39).map (fun i => (i.zero, i.size, i.bytes)) = some (some (.slice none 0 0), 1, 24) := by kernel_rfl
  obtain ⟨i0, hi, hzz⟩ := Option.map_eq_some_iff.1 hinfo
  simp only [Prod.mk.injEq] at hzz
  obtain ⟨hz0, hz1, hz2⟩ := hzz
  obtain ⟨h0, inner, hown, hr⟩ := HO
  have hone : x.oneCell' = true := by
    obtain ⟨A, c, rfl, _⟩ := Kd.R_reads hx
    rfl
  obtain ⟨v1, w1, hrun, ho, hg, _, hat⟩ := run_append_own_at (P := Try.prog) (W.alloc (.cells #[x] 39)) base 22 22 39 i0 (.slice none 0 0) 1 24 Try.underlying22 hi hz0 hz1 hz2 rfl (by decide) v xs.length inner (hown.alloc _) ⟨W.heap.size, 0, none⟩ 1 1 [x] rfl (cell_one_new _ _ _) (by simpa using hone) (by simp only [maxLen]; omega) hl (by simp; omega)
  have hg2 : W.grownBy w1 v.ownBlock := World.grownBy.trans (World.grownBy_alloc W _ _) hg
  have hat2 : v1.ownBlock = v.ownBlock ∨ ∃ b, v1.ownBlock = some b ∧ W.heap.size ≤ b := by
    rcases hat with h | h
    · exact .inl h
    · exact .inr ⟨_, h, by simp⟩
  exact ⟨v1, w1, hrun, Kd.R_appended h0 hr (okp := fun k => some k ≠ v.ownBlock) ⟨x, rfl, hx⟩ (fun k hk => ⟨trivial, hk⟩) (fun _ _ => trivial) ho hg2 hat2, hg, by simpa using hat⟩

end Go.Proofs.Yteickelddnhdiaa.G
