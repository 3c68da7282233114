/- The kit's functions, plainly, for the statements of chapter 11; picks depend on few draws. -/
import Derived.Test.YtkippapoicdlhaaDrx1
import Derived.Test.YtkippapoicdlhaaEvP
namespace Go.Proofs.Ytkippapoicdlhaa.Dr
open Go.RowKit Go.Proofs.YtkippapoicdlhaaW.PrintWords Go.Proofs.YtkippapoicdlhaaW.PrintLast Go.Proofs.Ytkippapoicdlhaa.G
set_option linter.unusedVariables false

theorem Pick_is {a m : Int} (ha : -9223372036854775808 ≤ a ∧ a ≤ 9223372036854775807) (hm : 1 ≤ m) (hm2 : m ≤ 4611686018427387904) : wayfinderkit_Pick.f a m = some (a % m) := by
  have h1 := Int.emod_nonneg a (show m ≠ 0 by omega)
  have h2 := Int.emod_lt_of_pos a (show 0 < m by omega)
  have h3 := tmod_pick (a := a) (show 0 < m by omega)
  unfold wayfinderkit_Pick.f
  rw [if_neg (by omega), if_neg (by omega)]
  split
  · rename_i h
    rw [if_pos h] at h3
    rw [h3, wrap_in (by omega) (by omega)]
  · rename_i h
    rw [if_neg h] at h3
    rw [h3]
theorem Own_is {l : List Int} (h : l.length < 17592186044416) : wayfinderkit_Own_uint64.f l = some l := by
  simp [wayfinderkit_Own_uint64.f, h]
theorem Same_is (a b : List Int) (hm : a.length ≤ 140737488351232) : Ev (fun k => wayfinderkit_Same_int.f k a b) (decide (a = b)) := by
  unfold wayfinderkit_Same_int.f
  by_cases hl : a.length = b.length
  · refine Ev.pos (by omega) ?_
    by_cases he : a = b
    · subst he
      rw [decide_eq_true rfl]
      refine Ev.for_ (l := fun i k => wayfinderkit_Same_int.l0 k a a (i : Int)) (g := fun _ => some true) (Nat.zero_le a.length) (fun i _ hi k => ?_) (fun k => ?_) (Ev.some_ true)
      · simp only [wayfinderkit_Same_int.l0]
        rw [if_pos (by omega), if_pos (by omega), if_pos (by omega), if_pos trivial, wrap_succ (by omega)]
      · simp only [wayfinderkit_Same_int.l0]
        rw [if_neg (by omega)]
    · rw [decide_eq_false he]
      have hex : ∃ i, i < a.length ∧ rd a (i : Int) ≠ rd b (i : Int) := by
        refine Classical.byContradiction fun hn => he (List.ext_getElem hl fun i h1 h2 => ?_)
        have h3 := Classical.byContradiction fun h => hn ⟨i, h1, h⟩
        rwa [rd_get h1, rd_get h2] at h3
      obtain ⟨n, ⟨hn, hne⟩, hmin⟩ : ∃ n, (n < a.length ∧ rd a (n : Int) ≠ rd b (n : Int)) ∧ ∀ i, i < n → ¬ (i < a.length ∧ rd a (i : Int) ≠ rd b (i : Int)) := least hex
      refine Ev.for_ (l := fun i k => wayfinderkit_Same_int.l0 k a b (i : Int)) (g := fun _ => some false) (Nat.zero_le n) (fun i _ hi k => ?_) (fun k => ?_) (Ev.some_ false)
      · have h3 : rd a (i : Int) = rd b (i : Int) := Classical.byContradiction fun h => hmin i hi ⟨by omega, h⟩
        simp only [wayfinderkit_Same_int.l0]
        rw [if_pos (by omega), if_pos (by omega), if_pos (by omega), if_pos h3, wrap_succ (by omega)]
      · simp only [wayfinderkit_Same_int.l0]
        rw [if_pos (by omega), if_pos (by omega), if_pos (by omega), if_neg hne]
  · rw [decide_eq_false (fun h => hl (by rw [h]))]
    exact Ev.neg (by omega) (Ev.some_ false)
theorem lives_is : Ev (fun k => wayfinderlaw11_lives.f k) true := by
  unfold wayfinderlaw11_lives.f
  refine Ev.bindc (a := ([2, 3, 0, 1], 0)) (by decide +kernel) ?_
  refine Ev.pos rfl ?_
  refine Ev.bind (a := true) ?_ (Ev.some_ true)
  have := Same_is [2, 3, 0, 1] [2, 3, 0, 1] (by decide)
  simpa using this

theorem rowF_congr {l l' : List Int} {n : Nat} : ∀ t, (∀ s, s < t → drawV l s % ((n - s : Nat) : Int) = drawV l' s % ((n - s : Nat) : Int)) → rowF l n t = rowF l' n t
  | 0, _ => rfl
  | t + 1, h => by rw [rowF, rowF, rowF_congr t (fun s hs => h s (by omega)), h t (by omega)]
theorem picks_congr {l l' : List Int} {n k : Nat} (h : ∀ s, s < min n k → drawV l s % ((n - s : Nat) : Int) = drawV l' s % ((n - s : Nat) : Int)) : picksL l n k = picksL l' n k := by
  unfold picksL
  congr 1
  unfold firstsL
  apply List.map_congr_left
  intro i hi
  rw [rowF_congr (i + 1) (fun s hs => h s (by have := List.mem_range.1 hi; omega))]
theorem drawV_in {l : List Int} {t : Nat} (h : t < l.length) : drawV l t = l[t] := by
  unfold drawV
  rw [if_neg (by omega), Nat.mod_eq_of_lt h, List.getD_eq_getElem?_getD, List.getElem?_eq_getElem h]
  rfl
theorem Picks_is {l : List Int} {n k : Nat} (hl : ∀ x ∈ l, 0 ≤ x ∧ x < 18446744073709551616) (h1 : 1 ≤ n) (h2 : n ≤ 16777216) (h3 : k ≤ 4096) : draw_Picks.f l (n : Int) (k : Int) = some (picksL l n k, 0) := by
  unfold draw_Picks.f
  rw [if_pos hl, if_neg (by omega), Int.toNat_natCast, Int.toNat_natCast]
theorem picksL_length (l : List Int) (n k : Nat) : (picksL l n k).length = k := by simp [picksL, repL_length]

end Go.Proofs.Ytkippapoicdlhaa.Dr
