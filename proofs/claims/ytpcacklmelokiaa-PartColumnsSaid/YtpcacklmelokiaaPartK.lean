/- The kit's functions, plainly. -/
import Derived.Test.YtpcacklmelokiaaPax2
import Derived.Test.YtpcacklmelokiaaEvP
namespace Go.Proofs.Ytpcacklmelokiaa.Pa
open Go.RowKit Go.Proofs.YtpcacklmelokiaaW.PrintWords Go.Proofs.YtpcacklmelokiaaW.PrintLast Go.Proofs.Ytpcacklmelokiaa.G
set_option linter.unusedVariables false

theorem Pick_is {a m : Int} (ha : -9223372036854775808 ≤ a ∧ a ≤ 9223372036854775807) (hm : 1 ≤ m) (hm2 : m ≤ 4611686018427387904) : wayfinderkit_Pick.f a m = some (a % m) := by
  have h1 := Int.emod_nonneg a (show m ≠ 0 by omega)
  have h2 := Int.emod_lt_of_pos a (show 0 < m by omega)
  have h3 := tmod_pick (a := a) (show 0 < m by omega)
  unfold wayfinderkit_Pick.f
  rw [if_neg (by omega), if_neg (by omega)]
  split
  · rename_i h
    rw [if_pos h] at h3
    rw [h3, wrap_in (by omega) (by omega)]
  · rename_i h
    rw [if_neg h] at h3
    rw [h3]
theorem Same_int32_is (a b : List Int) (hm : a.length ≤ 140737488351232) : Ev (fun k => wayfinderkit_Same_int32.f k a b) (decide (a = b)) := by
  unfold wayfinderkit_Same_int32.f
  by_cases hl : a.length = b.length
  · refine Ev.pos (by omega) ?_
    by_cases he : a = b
    · subst he
      rw [decide_eq_true rfl]
      refine Ev.for_ (l := fun i k => wayfinderkit_Same_int32.l0 k a a (i : Int)) (g := fun _ => some true) (Nat.zero_le a.length) (fun i _ hi k => ?_) (fun k => ?_) (Ev.some_ true)
      · simp only [wayfinderkit_Same_int32.l0]
        rw [if_pos (by omega), if_pos (by omega), if_pos (by omega), if_pos trivial, wrap_succ (by omega)]
      · simp only [wayfinderkit_Same_int32.l0]
        rw [if_neg (by omega)]
    · rw [decide_eq_false he]
      have hex : ∃ i, i < a.length ∧ rd a (i : Int) ≠ rd b (i : Int) := by
        refine Classical.byContradiction fun hn => he (List.ext_getElem hl fun i h1 h2 => ?_)
        have h3 := Classical.byContradiction fun h => hn ⟨i, h1, h⟩
        rwa [rd_get h1, rd_get h2] at h3
      obtain ⟨n, ⟨hn, hne⟩, hmin⟩ : ∃ n, (n < a.length ∧ rd a (n : Int) ≠ rd b (n : Int)) ∧ ∀ i, i < n → ¬ (i < a.length ∧ rd a (i : Int) ≠ rd b (i : Int)) := least hex
      refine Ev.for_ (l := fun i k => wayfinderkit_Same_int32.l0 k a b (i : Int)) (g := fun _ => some false) (Nat.zero_le n) (fun i _ hi k => ?_) (fun k => ?_) (Ev.some_ false)
      · have h3 : rd a (i : Int) = rd b (i : Int) := Classical.byContradiction fun h => hmin i hi ⟨by omega, h⟩
        simp only [wayfinderkit_Same_int32.l0]
        rw [if_pos (by omega), if_pos (by omega), if_pos (by omega), if_pos h3, wrap_succ (by omega)]
      · simp only [wayfinderkit_Same_int32.l0]
        rw [if_pos (by omega), if_pos (by omega), if_pos (by omega), if_neg hne]
  · rw [decide_eq_false (fun h => hl (by rw [h]))]
    exact Ev.neg (by omega) (Ev.some_ false)
theorem Same_int32_self (a : List Int) (hm : a.length ≤ 140737488351232) : Ev (fun k => wayfinderkit_Same_int32.f k a a) true := by
  have := Same_int32_is a a hm
  rwa [decide_eq_true rfl] at this
theorem Same_int64_is (a b : List Int) (hm : a.length ≤ 140737488351232) : Ev (fun k => wayfinderkit_Same_int64.f k a b) (decide (a = b)) := by
  unfold wayfinderkit_Same_int64.f
  by_cases hl : a.length = b.length
  · refine Ev.pos (by omega) ?_
    by_cases he : a = b
    · subst he
      rw [decide_eq_true rfl]
      refine Ev.for_ (l := fun i k => wayfinderkit_Same_int64.l0 k a a (i : Int)) (g := fun _ => some true) (Nat.zero_le a.length) (fun i _ hi k => ?_) (fun k => ?_) (Ev.some_ true)
      · simp only [wayfinderkit_Same_int64.l0]
        rw [if_pos (by omega), if_pos (by omega), if_pos (by omega), if_pos trivial, wrap_succ (by omega)]
      · simp only [wayfinderkit_Same_int64.l0]
        rw [if_neg (by omega)]
    · rw [decide_eq_false he]
      have hex : ∃ i, i < a.length ∧ rd a (i : Int) ≠ rd b (i : Int) := by
        refine Classical.byContradiction fun hn => he (List.ext_getElem hl fun i h1 h2 => ?_)
        have h3 := Classical.byContradiction fun h => hn ⟨i, h1, h⟩
        rwa [rd_get h1, rd_get h2] at h3
      obtain ⟨n, ⟨hn, hne⟩, hmin⟩ : ∃ n, (n < a.length ∧ rd a (n : Int) ≠ rd b (n : Int)) ∧ ∀ i, i < n → ¬ (i < a.length ∧ rd a (i : Int) ≠ rd b (i : Int)) := least hex
      refine Ev.for_ (l := fun i k => wayfinderkit_Same_int64.l0 k a b (i : Int)) (g := fun _ => some false) (Nat.zero_le n) (fun i _ hi k => ?_) (fun k => ?_) (Ev.some_ false)
      · have h3 : rd a (i : Int) = rd b (i : Int) := Classical.byContradiction fun h => hmin i hi ⟨by omega, h⟩
        simp only [wayfinderkit_Same_int64.l0]
        rw [if_pos (by omega), if_pos (by omega), if_pos (by omega), if_pos h3, wrap_succ (by omega)]
      · simp only [wayfinderkit_Same_int64.l0]
        rw [if_pos (by omega), if_pos (by omega), if_pos (by omega), if_neg hne]
  · rw [decide_eq_false (fun h => hl (by rw [h]))]
    exact Ev.neg (by omega) (Ev.some_ false)
theorem Same_int64_self (a : List Int) (hm : a.length ≤ 140737488351232) : Ev (fun k => wayfinderkit_Same_int64.f k a a) true := by
  have := Same_int64_is a a hm
  rwa [decide_eq_true rfl] at this
theorem rd_L1_get {l : List (List Int)} {i : Nat} (h : i < l.length) : rd_L1 l (i : Int) = l[i] := by simp [rd_L1, h]
theorem Lists_int32_is (a b : List (List Int)) (hm : a.length ≤ 140737488351232) (hr : ∀ v ∈ a, v.length ≤ 140737488351232) : Ev (fun k => wayfinderkit_Lists_int32.f k a b) (decide (a = b)) := by
  unfold wayfinderkit_Lists_int32.f
  by_cases hl : a.length = b.length
  · refine Ev.pos (by omega) ?_
    by_cases he : a = b
    · subst he
      rw [decide_eq_true rfl]
      refine Ev.forE (l := fun i k => wayfinderkit_Lists_int32.l0 k a a (i : Int)) (Nat.zero_le a.length) (fun i _ hi h => ?_) ?_
      · refine Ev.step (fun k => by simp only [wayfinderkit_Lists_int32.l0]; rw [if_pos (by omega), if_pos (by omega), if_pos (by omega), rd_L1_get hi, wrap_succ (by omega)]) ?_
        exact Ev.bind (Same_int32_self _ (hr _ (List.getElem_mem hi))) (Ev.pos rfl h)
      · exact Ev.step (f := fun _ => some true) (fun k => by simp only [wayfinderkit_Lists_int32.l0]; rw [if_neg (by omega)]) (Ev.some_ true)
    · rw [decide_eq_false he]
      have hex : ∃ i, i < a.length ∧ rd_L1 a (i : Int) ≠ rd_L1 b (i : Int) := by
        refine Classical.byContradiction fun hn => he (List.ext_getElem hl fun i h1 h2 => ?_)
        have h3 := Classical.byContradiction fun h => hn ⟨i, h1, h⟩
        rwa [rd_L1_get h1, rd_L1_get h2] at h3
      obtain ⟨n, ⟨hn, hne⟩, hmin⟩ : ∃ n, (n < a.length ∧ rd_L1 a (n : Int) ≠ rd_L1 b (n : Int)) ∧ ∀ i, i < n → ¬ (i < a.length ∧ rd_L1 a (i : Int) ≠ rd_L1 b (i : Int)) := least hex
      refine Ev.forE (l := fun i k => wayfinderkit_Lists_int32.l0 k a b (i : Int)) (Nat.zero_le n) (fun i _ hi h => ?_) ?_
      · have h3 : rd_L1 a (i : Int) = rd_L1 b (i : Int) := Classical.byContradiction fun h => hmin i hi ⟨by omega, h⟩
        refine Ev.step (fun k => by simp only [wayfinderkit_Lists_int32.l0]; rw [if_pos (by omega), if_pos (by omega), if_pos (by omega), ← h3, wrap_succ (by omega)]) ?_
        refine Ev.bind (Same_int32_self _ ?_) (Ev.pos rfl h)
        rw [rd_L1_get (by omega)]
        exact hr _ (List.getElem_mem _)
      · refine Ev.step (fun k => by simp only [wayfinderkit_Lists_int32.l0]; rw [if_pos (by omega), if_pos (by omega), if_pos (by omega)]) ?_
        refine Ev.bind (a := false) ?_ (Ev.neg (by simp) (Ev.some_ false))
        have := Same_int32_is (rd_L1 a (n : Int)) (rd_L1 b (n : Int)) (by rw [rd_L1_get hn]; exact hr _ (List.getElem_mem _))
        rwa [decide_eq_false hne] at this
  · rw [decide_eq_false (fun h => hl (by rw [h]))]
    exact Ev.neg (by omega) (Ev.some_ false)
theorem Lists_int32_self (a : List (List Int)) (hm : a.length ≤ 140737488351232) (hr : ∀ v ∈ a, v.length ≤ 140737488351232) : Ev (fun k => wayfinderkit_Lists_int32.f k a a) true := by
  have := Lists_int32_is a a hm hr
  rwa [decide_eq_true rfl] at this

end Go.Proofs.Ytpcacklmelokiaa.Pa
