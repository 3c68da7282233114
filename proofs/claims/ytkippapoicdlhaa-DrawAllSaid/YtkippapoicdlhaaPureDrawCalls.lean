/- Statement DrawCalls, over numbers and lists: draws and picks are as the document says. -/
import Derived.Test.YtkippapoicdlhaaDrawQ
import Derived.Test.YtkippapoicdlhaaDrx4
namespace Go.Proofs.Ytkippapoicdlhaa.Pure
open Go.RowKit Go.Proofs.Ytkippapoicdlhaa.Dr Go.Proofs.YtkippapoicdlhaaW.PrintWords Go.Proofs.YtkippapoicdlhaaW.PrintLast Go.Proofs.Ytkippapoicdlhaa.G
set_option linter.unusedVariables false

theorem rDraw_is (l : List Int) (i : Nat) : wayfinderref11_Draw.f l (i : Int) = some (drawV l i) := by
  unfold wayfinderref11_Draw.f drawV
  rw [if_neg (by omega)]
  by_cases h : l.length = 0
  · rw [if_pos (by omega), if_pos h]
  · have hlt : i % l.length < l.length := Nat.mod_lt _ (by omega)
    rw [if_neg (by omega), if_neg h, Int.tmod_eq_emod_of_nonneg (by omega), show (i : Int) % (l.length : Int) = ((i % l.length : Nat) : Int) from rfl, if_pos (by omega), if_pos (by omega), rd_nat]
theorem draws_same (l : List Int) (i : Int) : ∃ v, draw_Draw.f l i = some v ∧ wayfinderref11_Draw.f l i = some v := by
  by_cases h0 : i < 0
  · exact ⟨0, by unfold draw_Draw.f; rw [if_pos h0], by unfold wayfinderref11_Draw.f; rw [if_pos h0]⟩
  · obtain ⟨n, rfl⟩ : ∃ n : Nat, i = n := ⟨i.toNat, by omega⟩
    exact ⟨drawV l n, by rw [← rDraw_is l n]; rfl, rDraw_is l n⟩
/-- The row after t swaps, as a list. -/
def rowL (l : List Int) (n t : Nat) : List Int := (List.range n).map fun x => ((rowF l n t x : Nat) : Int)
theorem rowL_length (l : List Int) (n t : Nat) : (rowL l n t).length = n := by simp [rowL]
theorem rowL_rd {l : List Int} {n t x : Nat} (h : x < n) : rd (rowL l n t) (x : Int) = ((rowF l n t x : Nat) : Int) := by
  rw [rd_get (by rw [rowL_length]; exact h)]
  simp [rowL]
theorem rowL_swap {l : List Int} {n t j : Nat} (ht : t < n) (hj : j < n) (hJ : t + (drawV l t % ((n - t : Nat) : Int)).toNat = j) :
    ((rowL l n t).set t (rd (rowL l n t) (j : Int))).set j (rd (rowL l n t) (t : Int)) = rowL l n (t + 1) := by
  rw [rowL_rd ht, rowL_rd hj]
  apply List.ext_getElem
  · simp [rowL]
  · intro x h1 h2
    have hx : x < n := by simpa [rowL] using h2
    rw [List.getElem_set, List.getElem_set]
    simp only [rowL, List.getElem_map, List.getElem_range, rowF, swapF, hJ]
    by_cases h3 : x = t
    · subst h3
      rw [if_pos rfl]
      by_cases h4 : j = x
      · subst h4; simp
      · rw [if_neg h4, if_pos rfl]
    · rw [if_neg h3]
      by_cases h4 : j = x
      · rw [if_pos h4, if_pos h4.symm]
      · rw [if_neg h4, if_neg (fun h => h3 h.symm), if_neg (fun h => h4 h.symm)]
theorem rPicks_is {l : List Int} {n k : Nat} (hl : ∀ x ∈ l, 0 ≤ x ∧ x < 18446744073709551616) (h1 : 1 ≤ n) (h2 : n ≤ 5000) (h3 : k ≤ 4096) : Ev (fun r => wayfinderref11_Picks.f r l (n : Int) (k : Int)) (picksL l n k, 0) := by
  unfold wayfinderref11_Picks.f
  refine Ev.neg (by omega) (Ev.neg (by omega) (Ev.neg (by omega) ?_))
  refine Ev.step (fun r => by simp only [wayfinderref11_Picks.j0]; rw [if_neg (by simp; omega), if_pos (by omega), Int.toNat_natCast, if_pos (by omega)]) ?_
  have s0 : List.replicate n (0 : Int) = mixL ((List.range n).map fun x : Nat => (x : Int)) (List.replicate n 0) 0 := by simp [mixL]
  have e1 : ((List.range n).map fun x : Nat => (x : Int)).length = (List.replicate n (0 : Int)).length := by simp
  have e0 : (List.replicate n (0 : Int)).length = n := by simp
  conv => arg 1; intro r; rw [s0]
  refine Ev.for_ (l := fun i r => wayfinderref11_Picks.l0 r l (n : Int) (k : Int) (mixL ((List.range n).map fun x : Nat => (x : Int)) (List.replicate n 0) i) (i : Int)) (g := fun r => wayfinderref11_Picks.l1 r l (n : Int) (k : Int) (rowL l n 0) 0) (Nat.zero_le n) (fun i _ hi r => ?_) (fun r => ?_) ?_
  · have hlen : (mixL ((List.range n).map fun x : Nat => (x : Int)) (List.replicate n 0) i).length = n := by rw [mixL_length e1 (by omega), e0]
    have := mixL_set (a := (List.range n).map fun x : Nat => (x : Int)) (b := List.replicate n 0) (i := i) e1 (by omega)
    simp only [List.getElem_map, List.getElem_range] at this
    simp only [wayfinderref11_Picks.l0]
    rw [if_pos (by omega), if_pos (by omega), if_pos (by omega), Int.toNat_natCast, this, wrap_succ (by omega)]
  · simp only [wayfinderref11_Picks.l0]
    rw [if_neg (by omega)]
    have := mixL_all e1
    rw [e0] at this
    rw [this]
    rfl
  · refine Ev.for_ (l := fun i r => wayfinderref11_Picks.l1 r l (n : Int) (k : Int) (rowL l n i) (i : Int)) (g := fun r => wayfinderref11_Picks.j3 r (n : Int) (k : Int) (rowL l n (min n k))) (Nat.zero_le (min n k)) (fun i _ hi r => ?_) (fun r => ?_) ?_
    · have hd := draw_lt hl i
      have hlen := rowL_length l n i
      have hj1 := Int.emod_nonneg (drawV l i) (show ((n - i : Nat) : Int) ≠ 0 by omega)
      have hj2 := Int.emod_lt_of_pos (drawV l i) (show (0 : Int) < ((n - i : Nat) : Int) by omega)
      obtain ⟨J, hJ⟩ : ∃ J : Nat, drawV l i % ((n - i : Nat) : Int) = J := ⟨_, (Int.toNat_of_nonneg hj1).symm⟩
      have hsw := rowL_swap (l := l) (n := n) (t := i) (j := i + J) (by omega) (by omega) (by rw [hJ]; simp)
      have e2 : wrap64 ((i : Int) + wrap64 (Int.tmod (drawV l i) (IntKind.u64.wrap (wrap64 ((n : Int) - (i : Int)))))) = ((i + J : Nat) : Int) := by
        rw [wrap_in (x := (n : Int) - (i : Int)) (by omega) (by omega), wrapu_in (by omega) (by omega), Int.tmod_eq_emod_of_nonneg hd.1, show (n : Int) - (i : Int) = ((n - i : Nat) : Int) by omega, hJ, wrap_nat (by omega), wrap_in (by omega) (by omega)]
        omega
      have e3 : ¬ IntKind.u64.wrap (wrap64 ((n : Int) - (i : Int))) = 0 := by
        rw [wrap_in (by omega) (by omega), wrapu_in (by omega) (by omega)]
        omega
      simp only [wayfinderref11_Picks.l1]
      rw [if_pos (by omega), if_pos (by omega), rDraw_is]
      simp only [Option.bind_some]
      rw [if_neg e3, e2, if_pos (by omega), if_pos (by omega), if_pos (by omega), if_pos (by omega), Int.toNat_natCast, Int.toNat_natCast, hsw, wrap_succ (by omega)]
    · simp only [wayfinderref11_Picks.l1]
      rcases Nat.le_total n k with h | h
      · rw [Nat.min_eq_left h, if_neg (by omega)]
      · rw [Nat.min_eq_right h]
        by_cases hnk : k < n
        · rw [if_pos (by omega), if_neg (by omega)]
        · rw [if_neg (by omega)]
    · refine Ev.step (f := fun r => wayfinderref11_Picks.l2 r (n : Int) (k : Int) (rowL l n (min n k)) [] 0) (fun r => by simp only [wayfinderref11_Picks.j3]) ?_
      refine Ev.for_ (l := fun i r => wayfinderref11_Picks.l2 r (n : Int) (k : Int) (rowL l n (min n k)) (picksL l n i) (i : Int)) (g := fun _ => some (picksL l n k, 0)) (Nat.zero_le k) (fun i _ hi r => ?_) (fun r => ?_) (Ev.some_ _)
      · have hlt : i % n < n := Nat.mod_lt _ h1
        have e4 : Int.tmod (i : Int) (n : Int) = ((i % n : Nat) : Int) := by rw [Int.tmod_eq_emod_of_nonneg (by omega)]; rfl
        have e5 : rowF l n (min n k) (i % n) = pickAt l n i := by
          unfold pickAt
          have hle : i % n + 1 ≤ min n k := by
            have := Nat.mod_le i n
            omega
          rw [← rowF_stays l n (i % n) (min n k - (i % n + 1)), show i % n + 1 + (min n k - (i % n + 1)) = min n k by omega]
        simp only [wayfinderref11_Picks.l2]
        rw [if_pos (by omega), if_neg (by omega), e4, if_pos (by omega), if_pos (by rw [rowL_length]; omega), if_pos (by rw [picksL_length]; omega), rowL_rd hlt, e5, wrap_succ (by omega)]
        congr 1
        rw [picksL_is h1, picksL_is h1, List.range_succ, List.map_append]
        rfl
      · simp only [wayfinderref11_Picks.l2]
        rw [if_neg (by omega)]
theorem rPicks_no {l : List Int} {n k : Int} (h : n < 1 ∨ 16777216 < n ∨ k < 0 ∨ 4096 < k) : Ev (fun r => wayfinderref11_Picks.f r l n k) ([], 2) := by
  have hs : Ev (fun r => wayfinderref11_Picks.j0 r l n k true) ([], 2) := Ev.step (f := fun _ => some ([], 2)) (fun r => by simp only [wayfinderref11_Picks.j0]; rw [if_pos trivial]) (Ev.some_ _)
  unfold wayfinderref11_Picks.f
  by_cases h1 : n < 1
  · exact Ev.pos h1 hs
  refine Ev.neg h1 ?_
  by_cases h2 : n > 16777216
  · exact Ev.pos h2 hs
  refine Ev.neg h2 ?_
  by_cases h3 : k < 0
  · exact Ev.pos h3 hs
  refine Ev.neg h3 ?_
  rw [show decide (k > 4096) = true by simp; omega]
  exact hs
/-- What both answer. -/
def picksV (l : List Int) (n k : Int) : List Int × Int := if n < 1 ∨ 16777216 < n ∨ k < 0 ∨ 4096 < k then ([], 2) else (picksL l n.toNat k.toNat, 0)
theorem both_picks {l : List Int} {n k : Int} (hl : ∀ x ∈ l, 0 ≤ x ∧ x < 18446744073709551616) (hn : n ≤ 5000 ∨ 16777216 < n) : draw_Picks.f l n k = some (picksV l n k) ∧ Ev (fun r => wayfinderref11_Picks.f r l n k) (picksV l n k) := by
  refine ⟨by unfold draw_Picks.f picksV; rw [if_pos hl], ?_⟩
  unfold picksV
  split
  · exact rPicks_no (by assumption)
  · rename_i h
    obtain ⟨a, rfl⟩ : ∃ a : Nat, n = a := ⟨n.toNat, by omega⟩
    obtain ⟨b, rfl⟩ : ∃ b : Nat, k = b := ⟨k.toNat, by omega⟩
    exact rPicks_is hl (by omega) (by omega) (by omega)
theorem picksV_length {l : List Int} {n k : Int} : (picksV l n k).1.length ≤ 4096 := by
  unfold picksV
  split
  · simp
  · rw [picksL_length]
    omega
theorem DrawCalls : wayfinderlaw11_DrawCalls.Pure := by
  intro l0 a1 a2 a3 l4 hm0 hr0 hw0 hw1 hw2 hw3 hm4 hr4 hw4
  refine Ev.rounds ?_
  have hl0 : ∀ x ∈ l0, 0 ≤ x ∧ x < 18446744073709551616 := fun x hx => by have := wf_u64 (hw0 x hx); omega
  have hl4 : ∀ x ∈ l4, -9223372036854775808 ≤ x ∧ x ≤ 9223372036854775807 := fun x hx => wf_i64 (hw4 x hx)
  have hs : Ev (fun r => wayfinderlaw11_DrawCalls.j0 r l0 a1 a2 a3 l4 true) true := Ev.step (f := fun _ => some true) (fun r => by simp only [wayfinderlaw11_DrawCalls.j0]; rw [if_pos trivial]) (Ev.some_ _)
  unfold wayfinderlaw11_DrawCalls.f
  refine Ev.bind lives_is (Ev.pos rfl ?_)
  by_cases h1 : (l0.length : Int) > 300
  · exact Ev.pos h1 hs
  refine Ev.neg h1 ?_
  by_cases h2 : (l4.length : Int) > 300
  · exact Ev.pos h2 hs
  refine Ev.neg h2 ?_
  have hgo : (a2 ≤ 5000 ∨ 16777216 < a2) → Ev (fun r => wayfinderlaw11_DrawCalls.j0 r l0 a1 a2 a3 l4 false) true := by
    intro hn
    obtain ⟨p1, p2⟩ := both_picks (k := a3) hl0 hn
    obtain ⟨v, d1, d2⟩ := draws_same l0 a1
    have ho : ∃ q : List Int × Int, draw_Order.f l0 a2 = some q ∧ Ev (fun r => wayfinderref11_Order.f r l0 a2) q ∧ q.1.length ≤ 4096 := by
      unfold draw_Order.f wayfinderref11_Order.f
      by_cases h3 : a2 < 1
      · exact ⟨([], 2), by rw [if_pos h3], Ev.pos h3 (Ev.some_ _), by simp⟩
      · by_cases h4 : a2 > 4096
        · exact ⟨([], 2), by rw [if_neg h3, if_pos h4], Ev.neg h3 (Ev.pos h4 (Ev.some_ _)), by simp⟩
        · obtain ⟨q1, q2⟩ := both_picks (k := a2) hl0 hn
          exact ⟨picksV l0 a2 a2, by rw [if_neg h3, if_neg h4, q1]; rfl, Ev.neg h3 (Ev.neg h4 (Ev.bind q2 (Ev.some_ _))), picksV_length⟩
    obtain ⟨q, o1, o2, o3⟩ := ho
    have hlen := picksV_length (l := l0) (n := a2) (k := a3)
    have hdd : draw_Distinct.f l4 = some (decide l4.Nodup) := by unfold draw_Distinct.f; rw [if_pos ⟨by omega, hl4⟩]
    have hrd : wayfinderref11_Distinct.f l4 = some (decide l4.Nodup) := by unfold wayfinderref11_Distinct.f; rw [if_pos ⟨by omega, hl4⟩]
    refine Ev.step (fun r => by simp only [wayfinderlaw11_DrawCalls.j0]; rw [if_neg (by simp)]) ?_
    refine Ev.bindc p1 (Ev.bind p2 (Ev.bindc o1 (Ev.bind o2 (Ev.bindc d1 (Ev.bindc d2 (Ev.pos rfl ?_))))))
    refine Ev.bind (a := true) ?_ (Ev.pos rfl (Ev.pos rfl (Ev.bind (a := true) ?_ (Ev.pos rfl (Ev.pos rfl (Ev.bindc hdd (Ev.bindc hrd (Ev.const (by simp)))))))))
    · have := Same_is (picksV l0 a2 a3).1 (picksV l0 a2 a3).1 (by omega)
      rwa [decide_eq_true rfl] at this
    · have := Same_is q.1 q.1 (by omega)
      rwa [decide_eq_true rfl] at this
  by_cases h5 : a2 > 5000
  · refine Ev.pos h5 ?_
    by_cases h6 : a2 ≤ 16777216
    · rw [decide_eq_true h6]
      exact hs
    · rw [decide_eq_false h6]
      exact hgo (.inr (by omega))
  · exact Ev.neg h5 (hgo (.inl (by omega)))

end Go.Proofs.Ytkippapoicdlhaa.Pure
