/- What picks are, plainly. -/
import Derived.Test.YtkippapoicdlhaaDrawP
namespace Go.Proofs.Ytkippapoicdlhaa.Dr
open Go.RowKit Go.Proofs.YtkippapoicdlhaaW.PrintWords Go.Proofs.YtkippapoicdlhaaW.PrintLast Go.Proofs.Ytkippapoicdlhaa.G
set_option linter.unusedVariables false

theorem swapF_inj {f : Nat → Nat} (h : ∀ x y, f x = f y → x = y) (i j x y : Nat) (e : swapF f i j x = swapF f i j y) : x = y := by
  unfold swapF at e
  by_cases h1 : x = i <;> by_cases h2 : y = i
  · omega
  · rw [if_pos h1, if_neg h2] at e
    by_cases h3 : y = j
    · rw [if_pos h3] at e
      have := h _ _ e
      omega
    · rw [if_neg h3] at e
      exact absurd (h _ _ e).symm h3
  · rw [if_neg h1, if_pos h2] at e
    by_cases h3 : x = j
    · rw [if_pos h3] at e
      have := h _ _ e
      omega
    · rw [if_neg h3] at e
      exact absurd (h _ _ e) h3
  · rw [if_neg h1, if_neg h2] at e
    by_cases h3 : x = j <;> by_cases h4 : y = j
    · omega
    · rw [if_pos h3, if_neg h4] at e
      exact absurd (h _ _ e).symm h2
    · rw [if_neg h3, if_pos h4] at e
      exact absurd (h _ _ e) h1
    · rw [if_neg h3, if_neg h4] at e
      exact h _ _ e
theorem rowF_inj (l : List Int) (n : Nat) : ∀ t x y, rowF l n t x = rowF l n t y → x = y
  | 0, _, _, e => e
  | t + 1, x, y, e => swapF_inj (rowF_inj l n t) _ _ x y e
/-- Where step t swaps to. -/
theorem jump {l : List Int} {n t : Nat} (ht : t < n) : t + (drawV l t % ((n - t : Nat) : Int)).toNat < n := by
  have h1 := Int.emod_nonneg (drawV l t) (show ((n - t : Nat) : Int) ≠ 0 by omega)
  have h2 := Int.emod_lt_of_pos (drawV l t) (show (0 : Int) < ((n - t : Nat) : Int) by omega)
  omega
theorem rowF_lt (l : List Int) (n : Nat) : ∀ t, t ≤ n → ∀ x, x < n → rowF l n t x < n
  | 0, _, _, h => h
  | t + 1, ht, x, hx => by
    have hj := jump (l := l) (show t < n by omega)
    unfold rowF swapF
    split
    · exact rowF_lt l n t (by omega) _ hj
    · split
      · exact rowF_lt l n t (by omega) _ (by omega)
      · exact rowF_lt l n t (by omega) _ hx
theorem rowF_stays (l : List Int) (n i : Nat) : ∀ d, rowF l n (i + 1 + d) i = rowF l n (i + 1) i
  | 0 => rfl
  | d + 1 => by
    rw [show i + 1 + (d + 1) = (i + 1 + d) + 1 by omega, rowF]
    unfold swapF
    rw [if_neg (by omega), if_neg (by omega)]
    exact rowF_stays l n i d
/-- Pick i. -/
def pickAt (l : List Int) (n i : Nat) : Nat := rowF l n (i % n + 1) (i % n)
theorem picksL_is {l : List Int} {n k : Nat} (hn : 1 ≤ n) : picksL l n k = (List.range k).map fun i => ((pickAt l n i : Nat) : Int) := by
  unfold picksL repL
  apply List.map_congr_left
  intro i hi
  have hik := List.mem_range.1 hi
  rw [firstsL_length]
  have hq : i % min n k = i % n := by
    rcases Nat.le_total n k with h | h
    · rw [Nat.min_eq_left h]
    · rw [Nat.min_eq_right h, Nat.mod_eq_of_lt hik, Nat.mod_eq_of_lt (by omega)]
  rw [hq]
  have h2 : i % n < min n k := by rw [← hq]; exact Nat.mod_lt _ (by omega)
  simp [firstsL, h2, pickAt]
theorem pickAt_lt {l : List Int} {n i : Nat} (hn : 1 ≤ n) : pickAt l n i < n := rowF_lt l n _ (Nat.mod_lt _ hn) _ (Nat.mod_lt _ hn)
theorem pickAt_inj {l : List Int} {n i j : Nat} (hi : i < n) (hj : j < n) (e : pickAt l n i = pickAt l n j) : i = j := by
  unfold pickAt at e
  rw [Nat.mod_eq_of_lt hi, Nat.mod_eq_of_lt hj] at e
  rw [← rowF_stays l n i (n - (i + 1)), ← rowF_stays l n j (n - (j + 1)), show i + 1 + (n - (i + 1)) = n by omega, show j + 1 + (n - (j + 1)) = n by omega] at e
  exact rowF_inj l n n i j e
theorem picks_nodup {l : List Int} {n k m : Nat} (hn : 1 ≤ n) (hm : m ≤ n) (hk : m ≤ k) : ((picksL l n k).take m).Nodup := by
  rw [picksL_is hn, ← List.map_take, List.take_range, Nat.min_eq_left hk]
  unfold List.Nodup
  rw [List.pairwise_map]
  refine List.Pairwise.imp_of_mem ?_ (List.pairwise_lt_range)
  intro a b ha hb hab e
  have h1 := List.mem_range.1 ha
  have h2 := List.mem_range.1 hb
  have := pickAt_inj (l := l) (n := n) (i := a) (j := b) (by omega) (by omega) (by omega)
  omega
theorem picks_take {l : List Int} {n k m : Nat} (hn : 1 ≤ n) (h : m ≤ k) : (picksL l n k).take m = picksL l n m := by
  rw [picksL_is hn, picksL_is hn, ← List.map_take, List.take_range, Nat.min_eq_left h]
theorem picks_rd {l : List Int} {n k i : Nat} (hn : 1 ≤ n) (h : i < k) : rd (picksL l n k) (i : Int) = ((pickAt l n i : Nat) : Int) := by
  rw [picksL_is hn, rd_get (by simpa using h)]
  simp
theorem picks_mem {l : List Int} {n k : Nat} (hn : 1 ≤ n) (x : Int) (h : x ∈ picksL l n k) : 0 ≤ x ∧ x < n := by
  rw [picksL_is hn] at h
  simp only [List.mem_map] at h
  obtain ⟨i, _, rfl⟩ := h
  have := pickAt_lt (l := l) (i := i) hn
  omega

end Go.Proofs.Ytkippapoicdlhaa.Dr
