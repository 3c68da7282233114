/- Statement DrawPicks, over numbers and lists: picks are below n, the first n of them are different, then they repeat; fewer picks are the first ones of more. -/
import Derived.Test.YtkippapoicdlhaaDrawP
import Derived.Test.YtkippapoicdlhaaDrx4
namespace Go.Proofs.Ytkippapoicdlhaa.Pure
open Go.RowKit Go.Proofs.Ytkippapoicdlhaa.Dr Go.Proofs.YtkippapoicdlhaaW.PrintWords Go.Proofs.YtkippapoicdlhaaW.PrintLast Go.Proofs.Ytkippapoicdlhaa.G
set_option linter.unusedVariables false

theorem swapF_inj {f : Nat → Nat} (h : ∀ x y, f x = f y → x = y) (i j x y : Nat) (e : swapF f i j x = swapF f i j y) : x = y := by
  unfold swapF at e
  by_cases h1 : x = i <;> by_cases h2 : y = i
  · omega
  · rw [if_pos h1, if_neg h2] at e
    by_cases h3 : y = j
    · rw [if_pos h3] at e
      have := h _ _ e
      omega
    · rw [if_neg h3] at e
      exact absurd (h _ _ e).symm h3
  · rw [if_neg h1, if_pos h2] at e
    by_cases h3 : x = j
    · rw [if_pos h3] at e
      have := h _ _ e
      omega
    · rw [if_neg h3] at e
      exact absurd (h _ _ e) h3
  · rw [if_neg h1, if_neg h2] at e
    by_cases h3 : x = j <;> by_cases h4 : y = j
    · omega
    · rw [if_pos h3, if_neg h4] at e
      exact absurd (h _ _ e).symm h2
    · rw [if_neg h3, if_pos h4] at e
      exact absurd (h _ _ e) h1
    · rw [if_neg h3, if_neg h4] at e
      exact h _ _ e
theorem rowF_inj (l : List Int) (n : Nat) : ∀ t x y, rowF l n t x = rowF l n t y → x = y
  | 0, _, _, e => e
  | t + 1, x, y, e => swapF_inj (rowF_inj l n t) _ _ x y e
/-- Where step t swaps to. -/
theorem jump {l : List Int} {n t : Nat} (ht : t < n) : t + (drawV l t % ((n - t : Nat) : Int)).toNat < n := by
  have h1 := Int.emod_nonneg (drawV l t) (show ((n - t : Nat) : Int) ≠ 0 by omega)
  have h2 := Int.emod_lt_of_pos (drawV l t) (show (0 : Int) < ((n - t : Nat) : Int) by omega)
  omega
theorem rowF_lt (l : List Int) (n : Nat) : ∀ t, t ≤ n → ∀ x, x < n → rowF l n t x < n
  | 0, _, _, h => h
  | t + 1, ht, x, hx => by
    have hj := jump (l := l) (show t < n by omega)
    unfold rowF swapF
    split
    · exact rowF_lt l n t (by omega) _ hj
    · split
      · exact rowF_lt l n t (by omega) _ (by omega)
      · exact rowF_lt l n t (by omega) _ hx
theorem rowF_stays (l : List Int) (n i : Nat) : ∀ d, rowF l n (i + 1 + d) i = rowF l n (i + 1) i
  | 0 => rfl
  | d + 1 => by
    rw [show i + 1 + (d + 1) = (i + 1 + d) + 1 by omega, rowF]
    unfold swapF
    rw [if_neg (by omega), if_neg (by omega)]
    exact rowF_stays l n i d
/-- Pick i. -/
def pickAt (l : List Int) (n i : Nat) : Nat := rowF l n (i % n + 1) (i % n)
theorem picksL_is {l : List Int} {n k : Nat} (hn : 1 ≤ n) : picksL l n k = (List.range k).map fun i => ((pickAt l n i : Nat) : Int) := by
  unfold picksL repL
  apply List.map_congr_left
  intro i hi
  have hik := List.mem_range.1 hi
  rw [firstsL_length]
  have hq : i % min n k = i % n := by
    rcases Nat.le_total n k with h | h
    · rw [Nat.min_eq_left h]
    · rw [Nat.min_eq_right h, Nat.mod_eq_of_lt hik, Nat.mod_eq_of_lt (by omega)]
  rw [hq]
  have h2 : i % n < min n k := by rw [← hq]; exact Nat.mod_lt _ (by omega)
  simp [firstsL, h2, pickAt]
theorem pickAt_lt {l : List Int} {n i : Nat} (hn : 1 ≤ n) : pickAt l n i < n := rowF_lt l n _ (Nat.mod_lt _ hn) _ (Nat.mod_lt _ hn)
theorem pickAt_inj {l : List Int} {n i j : Nat} (hi : i < n) (hj : j < n) (e : pickAt l n i = pickAt l n j) : i = j := by
  unfold pickAt at e
  rw [Nat.mod_eq_of_lt hi, Nat.mod_eq_of_lt hj] at e
  rw [← rowF_stays l n i (n - (i + 1)), ← rowF_stays l n j (n - (j + 1)), show i + 1 + (n - (i + 1)) = n by omega, show j + 1 + (n - (j + 1)) = n by omega] at e
  exact rowF_inj l n n i j e
theorem picks_nodup {l : List Int} {n k m : Nat} (hn : 1 ≤ n) (hm : m ≤ n) (hk : m ≤ k) : ((picksL l n k).take m).Nodup := by
  rw [picksL_is hn, ← List.map_take, List.take_range, Nat.min_eq_left hk]
  unfold List.Nodup
  rw [List.pairwise_map]
  refine List.Pairwise.imp_of_mem ?_ (List.pairwise_lt_range)
  intro a b ha hb hab e
  have h1 := List.mem_range.1 ha
  have h2 := List.mem_range.1 hb
  have := pickAt_inj (l := l) (n := n) (i := a) (j := b) (by omega) (by omega) (by omega)
  omega
theorem picks_take {l : List Int} {n k m : Nat} (hn : 1 ≤ n) (h : m ≤ k) : (picksL l n k).take m = picksL l n m := by
  rw [picksL_is hn, picksL_is hn, ← List.map_take, List.take_range, Nat.min_eq_left h]
theorem picks_rd {l : List Int} {n k i : Nat} (hn : 1 ≤ n) (h : i < k) : rd (picksL l n k) (i : Int) = ((pickAt l n i : Nat) : Int) := by
  rw [picksL_is hn, rd_get (by simpa using h)]
  simp
theorem picks_mem {l : List Int} {n k : Nat} (hn : 1 ≤ n) (x : Int) (h : x ∈ picksL l n k) : 0 ≤ x ∧ x < n := by
  rw [picksL_is hn] at h
  simp only [List.mem_map] at h
  obtain ⟨i, _, rfl⟩ := h
  have := pickAt_lt (l := l) (i := i) hn
  omega

theorem DrawPicks : wayfinderlaw11_DrawPicks.Pure := by
  intro l0 a1 a2 a3 hm0 hr0 hw0 hw1 hw2 hw3
  refine Ev.rounds ?_
  have b1 := wf_i64 hw1
  have b2 := wf_i64 hw2
  have b3 := wf_i64 hw3
  have hl0 : ∀ x ∈ l0, 0 ≤ x ∧ x < 18446744073709551616 := fun x hx => by have := wf_u64 (hw0 x hx); omega
  unfold wayfinderlaw11_DrawPicks.f
  refine Ev.bind lives_is (Ev.pos rfl ?_)
  by_cases h300 : (l0.length : Int) > 300
  · exact Ev.pos h300 (Ev.some_ true)
  refine Ev.neg h300 (Ev.bindc (Pick_is b1 (by omega) (by omega)) (Ev.bindc (Pick_is b2 (by omega) (by omega)) ?_))
  obtain ⟨n, hn⟩ : ∃ n : Nat, a1 % 300 + 1 = n := ⟨(a1 % 300 + 1).toNat, by omega⟩
  obtain ⟨k, hk⟩ : ∃ k : Nat, a2 % 600 = k := ⟨(a2 % 600).toNat, by omega⟩
  have hn1 : 1 ≤ n ∧ n ≤ 300 := by omega
  have hk1 : k < 600 := by omega
  rw [show (1 : Int) + a1 % 300 = n by omega, hk, wrap_nat (by omega), wrap_succ (by omega)]
  refine Ev.bindc (Pick_is b3 (by omega) (by omega)) ?_
  obtain ⟨m, hm⟩ : ∃ m : Nat, a3 % ((k + 1 : Nat) : Int) = m := ⟨(a3 % ((k + 1 : Nat) : Int)).toNat, by have := Int.emod_nonneg a3 (show ((k + 1 : Nat) : Int) ≠ 0 by omega); omega⟩
  have hmk : m ≤ k := by have := Int.emod_lt_of_pos a3 (show (0 : Int) < ((k + 1 : Nat) : Int) by omega); omega
  rw [hm]
  clear hn hk hm
  refine Ev.bindc (Picks_is hl0 (by omega) (by omega) (by omega)) (Ev.bindc (Picks_is hl0 (by omega) (by omega) (by omega)) (Ev.pos rfl (Ev.pos rfl ?_)))
  simp only []
  have e1 := picksL_length l0 n k
  have e2 := picksL_length l0 n m
  refine Ev.pos (by rw [e1]) (Ev.pos (by rw [e2]) (Ev.pos (by omega) (Ev.pos (by rw [e1]; omega) ?_)))
  rw [Int.toNat_natCast, picks_take hn1.1 hmk]
  refine Ev.bind (a := true) ?_ (Ev.pos rfl ?_)
  · have := Same_is (picksL l0 n m) (picksL l0 n m) (by rw [e2]; omega)
    rwa [decide_eq_true rfl] at this
  have hmn : mn (n : Int) (k : Int) = ((min n k : Nat) : Int) := by unfold mn; split <;> omega
  rw [hmn, Int.toNat_natCast]
  refine Ev.pos (by omega) (Ev.pos (by rw [e1]; omega) (Ev.bindc (a := true) ?_ ?_))
  · unfold draw_Distinct.f
    rw [if_pos ⟨by rw [List.length_take, e1]; omega, fun x hx => by have := picks_mem hn1.1 x (List.mem_of_mem_take hx); omega⟩, decide_eq_true (picks_nodup hn1.1 (by omega) (by omega))]
  refine Ev.step (fun r => by simp only [wayfinderlaw11_DrawPicks.j0]; rw [if_neg (by simp)]) ?_
  refine Ev.for_ (l := fun i r => wayfinderlaw11_DrawPicks.l0 r (n : Int) (k : Int) (picksL l0 n k) (i : Int)) (g := fun _ => some true) (Nat.zero_le k) (fun i _ hi r => ?_) (fun r => ?_) (Ev.some_ true)
  · have hlt := pickAt_lt (l := l0) (i := i) hn1.1
    simp only [wayfinderlaw11_DrawPicks.l0]
    rw [if_pos (by omega), if_pos (by omega), if_pos (by omega), picks_rd hn1.1 hi, if_neg (by omega), if_neg (by omega)]
    by_cases hin : (i : Int) ≥ (n : Int)
    · obtain ⟨j, rfl⟩ : ∃ j, i = j + n := ⟨i - n, by omega⟩
      rw [if_pos hin, wrap_in (by omega) (by omega), if_pos (by omega), if_pos (by rw [e1]; omega), show ((j + n : Nat) : Int) - (n : Int) = (j : Int) by omega, picks_rd hn1.1 (by omega), if_pos (by unfold pickAt; rw [Nat.add_mod_right]), wrap_succ (by omega)]
    · rw [if_neg hin, wrap_succ (by omega)]
  · simp only [wayfinderlaw11_DrawPicks.l0]
    rw [if_neg (by omega)]

end Go.Proofs.Ytkippapoicdlhaa.Pure
