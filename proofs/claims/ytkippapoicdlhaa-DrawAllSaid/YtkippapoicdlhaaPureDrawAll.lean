/- Statement DrawAll, over numbers and lists: each sequence of different numbers is picked by some draws. -/
import Derived.Test.YtkippapoicdlhaaPureDrawCalls
import Derived.Test.YtkippapoicdlhaaDrx6
namespace Go.Proofs.Ytkippapoicdlhaa.Pure
open Go.RowKit Go.Proofs.Ytkippapoicdlhaa.Dr Go.Proofs.YtkippapoicdlhaaW.PrintWords Go.Proofs.YtkippapoicdlhaaW.PrintLast Go.Proofs.Ytkippapoicdlhaa.G
set_option linter.unusedVariables false

/-- Number k comes ahead of number i. -/
def aheadP (l : List Int) (k i : Nat) : Prop := rd l (k : Int) < rd l (i : Int) ∨ rd l (k : Int) = rd l (i : Int) ∧ k < i
instance (l : List Int) (k i : Nat) : Decidable (aheadP l k i) := inferInstanceAs (Decidable (_ ∨ _))
/-- How many of the first j come ahead of i. -/
def rankTo (l : List Int) (i : Nat) : Nat → Nat
  | 0 => 0
  | j + 1 => rankTo l i j + if aheadP l j i then 1 else 0
theorem rankTo_le (l : List Int) (i : Nat) : ∀ j, rankTo l i j ≤ j
  | 0 => Nat.le_refl _
  | j + 1 => by
    have := rankTo_le l i j
    unfold rankTo
    split <;> omega
theorem rankTo_lt (l : List Int) (i : Nat) : ∀ j, i < j → rankTo l i j < j
  | 0, h => by omega
  | j + 1, h => by
    by_cases hj : i < j
    · have := rankTo_lt l i j hj
      unfold rankTo
      split <;> omega
    · obtain rfl : i = j := by omega
      have := rankTo_le l i i
      have hn : ¬ aheadP l i i := by unfold aheadP; omega
      unfold rankTo
      rw [if_neg hn]
      omega
theorem rankTo_mono {l : List Int} {i i' : Nat} (h : aheadP l i i') : ∀ j, rankTo l i j ≤ rankTo l i' j
  | 0 => Nat.le_refl _
  | j + 1 => by
    have := rankTo_mono h j
    unfold rankTo
    by_cases h1 : aheadP l j i
    · have h2 : aheadP l j i' := by unfold aheadP at *; omega
      rw [if_pos h1, if_pos h2]
      omega
    · rw [if_neg h1]
      split <;> omega
theorem rankTo_strict {l : List Int} {i i' : Nat} (h : aheadP l i i') : ∀ j, i < j → rankTo l i j < rankTo l i' j
  | 0, hj => by omega
  | j + 1, hj => by
    by_cases h0 : i < j
    · have := rankTo_strict h j h0
      unfold rankTo
      by_cases h1 : aheadP l j i
      · have h2 : aheadP l j i' := by unfold aheadP at *; omega
        rw [if_pos h1, if_pos h2]
        omega
      · rw [if_neg h1]
        split <;> omega
    · obtain rfl : i = j := by omega
      have := rankTo_mono h i
      have hn : ¬ aheadP l i i := by unfold aheadP; omega
      unfold rankTo
      rw [if_neg hn, if_pos h]
      omega
def rankN (l : List Int) (i : Nat) : Nat := rankTo l i l.length
theorem rankN_inj {l : List Int} {i j : Nat} (hi : i < l.length) (hj : j < l.length) (e : rankN l i = rankN l j) : i = j := by
  refine Classical.byContradiction fun hne => ?_
  have ht : aheadP l i j ∨ aheadP l j i := by unfold aheadP; omega
  rcases ht with h | h
  · have := rankTo_strict h l.length hi
    unfold rankN at e
    omega
  · have := rankTo_strict h l.length hj
    unfold rankN at e
    omega
def ranksL (l : List Int) : List Int := (List.range l.length).map fun i => ((rankN l i : Nat) : Int)
theorem ranksL_length (l : List Int) : (ranksL l).length = l.length := by simp [ranksL]
theorem ranksL_rd {l : List Int} {i : Nat} (h : i < l.length) : rd (ranksL l) (i : Int) = ((rankN l i : Nat) : Int) := by
  rw [rd_get (by rw [ranksL_length]; exact h)]
  simp [ranksL]
/-- The row after t swaps depends on the first t draws alone. -/
theorem rowF_congr {l l' : List Int} {n : Nat} : ∀ t, (∀ s, s < t → drawV l s = drawV l' s) → rowF l n t = rowF l' n t
  | 0, _ => rfl
  | t + 1, h => by
    unfold rowF
    rw [rowF_congr t (fun s hs => h s (by omega)), h t (by omega)]
theorem rowF_onto {l : List Int} {n : Nat} : ∀ t, t ≤ n → ∀ y, y < n → ∃ x, x < n ∧ rowF l n t x = y
  | 0, _, y, hy => ⟨y, hy, rfl⟩
  | t + 1, ht, y, hy => by
    obtain ⟨x, hx, e⟩ := rowF_onto (l := l) t (by omega) y hy
    have hj := jump (l := l) (show t < n by omega)
    generalize hJ : t + (drawV l t % ((n - t : Nat) : Int)).toNat = j at hj
    refine ⟨if x = t then j else if x = j then t else x, by split; exact hj; split <;> omega, ?_⟩
    simp only [rowF, swapF, hJ]
    by_cases h1 : x = t
    · subst h1
      rw [if_pos rfl]
      by_cases h2 : j = x
      · subst h2; rw [if_pos rfl]; exact e
      · rw [if_neg h2, if_pos rfl]; exact e
    · rw [if_neg h1]
      by_cases h2 : x = j
      · subst h2; rw [if_pos rfl, if_pos rfl]; exact e
      · rw [if_neg h2, if_neg h1, if_neg h2]; exact e
theorem drawV_at {l : List Int} {i : Nat} (h : i < l.length) : drawV l i = l[i] := by
  unfold drawV
  rw [if_neg (by omega), Nat.mod_eq_of_lt h]
  simp [h]
theorem drawV_snoc {l : List Int} {x : Int} {s : Nat} (h : s < l.length) : drawV (l ++ [x]) s = drawV l s := by
  rw [drawV_at h, drawV_at (by simp; omega), List.getElem_append_left h]
theorem drawV_last {l : List Int} {x : Int} {t : Nat} (h : l.length = t) : drawV (l ++ [x]) t = x := by
  subst h
  rw [drawV_at (by simp)]
  simp
/-- A draw that jumps by b. -/
theorem draw_val {b c : Nat} {q : Int} (hb : b < c) (hc : c ≤ 60) (h0 : 0 ≤ q) (h1 : q < 1099511627776) :
    IntKind.u64.wrap ((IntKind.u64.wrap (b : Int)) + (IntKind.u64.wrap (q * (IntKind.u64.wrap (c : Int))))) = (b : Int) + q * (c : Int) ∧ 0 ≤ (b : Int) + q * (c : Int) ∧ (b : Int) + q * (c : Int) < 18446744073709551616 ∧ ((b : Int) + q * (c : Int)) % (c : Int) = (b : Int) := by
  have hm : ((b : Int) + q * (c : Int)) % (c : Int) = (b : Int) := by
    rw [Int.add_mul_emod_self_right, Int.emod_eq_of_lt (by omega) (by omega)]
  have p0 : 0 ≤ q * (c : Int) := Int.mul_nonneg h0 (by omega)
  have p1 : q * (c : Int) ≤ 1099511627776 * 60 := Int.mul_le_mul (by omega) (by omega) (by omega) (by omega)
  refine ⟨?_, by omega, by omega, hm⟩
  rw [wrapu_in (x := (c : Int)) (by omega) (by omega), wrapu_in (x := (b : Int)) (by omega) (by omega)]
  generalize q * (c : Int) = z at *
  rw [wrapu_in (x := z) (by omega) (by omega), wrapu_in (by omega) (by omega)]
/-- The last loop: from t draws on. -/
theorem rest_is {l m : List Int} (hn1 : 1 ≤ l.length) (hn2 : l.length ≤ 60) (hm : ∀ x ∈ m, 0 ≤ x ∧ x < 18446744073709551616) (hml : m.length ≤ 60) : ∀ d t (D : List Int), t + d = l.length → D.length = t → (∀ x ∈ D, 0 ≤ x ∧ x < 18446744073709551616) → (∀ s, s < t → rowF D l.length t s = rankN l s) → Ev (fun r => wayfinderlaw11_DrawAll.l3 r m (l.length : Int) (ranksL l) (rowL D l.length t) D (t : Int)) true
  | 0, t, D, ht, hD, hx, hs => by
    obtain rfl : t = l.length := by omega
    have hO : draw_Order.f D (l.length : Int) = some (ranksL l, 0) := by
      unfold draw_Order.f draw_Picks.f
      rw [if_neg (by omega), if_neg (by omega), if_pos hx]
      simp only [Option.bind_some]
      rw [if_neg (by omega), Int.toNat_natCast, picksL_is hn1]
      congr 2
      unfold ranksL
      apply List.map_congr_left
      intro i hi
      have hil := List.mem_range.1 hi
      unfold pickAt
      rw [Nat.mod_eq_of_lt hil, ← rowF_stays D l.length i (l.length - (i + 1)), show i + 1 + (l.length - (i + 1)) = l.length by omega, hs i hil]
    refine Ev.step (f := fun r => (draw_Order.f D (l.length : Int)).bind fun bt245 => (if bt245.2 = 0 then ((wayfinderkit_Same_int.f r bt245.1 (ranksL l)).bind fun t249 => (some t249)) else (none))) (fun r => by simp only [wayfinderlaw11_DrawAll.l3]; rw [if_neg (by omega)]) ?_
    refine Ev.bindc hO (Ev.pos rfl ?_)
    refine Ev.bind (a := true) ?_ (Ev.some_ true)
    have := Same_is (ranksL l) (ranksL l) (by rw [ranksL_length]; omega)
    rwa [decide_eq_true rfl] at this
  | d + 1, t, D, ht, hD, hx, hs => by
    have htn : t < l.length := by omega
    obtain ⟨a, han, hae⟩ := rowF_onto (l := D) (n := l.length) t (by omega) (rankN l t) (rankTo_lt l t l.length htn)
    have hat : t ≤ a := by
      refine Classical.byContradiction fun h => ?_
      have h1 := hs a (by omega)
      rw [hae] at h1
      exact absurd (rankN_inj htn han h1) (by omega)
    have hlr := rowL_length D l.length t
    have hlk := ranksL_length l
    obtain ⟨q, hq⟩ : ∃ q : Int, q = (if (t : Int) < (m.length : Int) then rd m (t : Int) % 1099511627776 else 0) := ⟨_, rfl⟩
    have hq2 : 0 ≤ q ∧ q < 1099511627776 := by
      rw [hq]
      split
      · exact ⟨Int.emod_nonneg _ (by omega), Int.emod_lt_of_pos _ (by omega)⟩
      · omega
    obtain ⟨v1, v2, v3, v4⟩ := draw_val (b := a - t) (c := l.length - t) (q := q) (by omega) (by omega) hq2.1 hq2.2
    have hV : ∀ z : Int, z = ((a - t : Nat) : Int) + q * ((l.length - t : Nat) : Int) → Ev (fun r => wayfinderlaw11_DrawAll.l3 r m (l.length : Int) (ranksL l) (((rowL D l.length t).set t (rd (rowL D l.length t) (a : Int))).set a (rd (rowL D l.length t) (t : Int))) (D ++ [z]) ((t + 1 : Nat) : Int)) true := by
      rintro z rfl
      have hcg := rowF_congr (l := D) (l' := D ++ [((a - t : Nat) : Int) + q * ((l.length - t : Nat) : Int)]) (n := l.length) t (fun s hs => (drawV_snoc (by omega)).symm)
      have hJ : t + (drawV (D ++ [((a - t : Nat) : Int) + q * ((l.length - t : Nat) : Int)]) t % ((l.length - t : Nat) : Int)).toNat = a := by
        rw [drawV_last hD, v4]
        omega
      have hrl : rowL D l.length t = rowL (D ++ [((a - t : Nat) : Int) + q * ((l.length - t : Nat) : Int)]) l.length t := by unfold rowL; rw [hcg]
      rw [hrl, rowL_swap htn han hJ]
      refine rest_is hn1 hn2 hm hml d (t + 1) _ (by omega) (by simp [hD]) ?_ ?_
      · intro x hxm
        rcases List.mem_append.1 hxm with h | h
        · exact hx x h
        · simp only [List.mem_singleton] at h
          rw [h]
          exact ⟨v2, v3⟩
      · intro s hst
        simp only [rowF, swapF, hJ]
        rw [← hcg]
        by_cases h1 : s = t
        · subst h1
          rw [if_pos rfl]
          exact hae
        · rw [if_neg h1, if_neg (by omega)]
          exact hs s (by omega)
    refine Ev.step (f := fun r => wayfinderlaw11_DrawAll.l4 r m (l.length : Int) (ranksL l) (rowL D l.length t) D (t : Int) (t : Int)) (fun r => by simp only [wayfinderlaw11_DrawAll.l3]; rw [if_pos (by omega)]) ?_
    have e1 : wrap64 ((a : Int) - (t : Int)) = ((a - t : Nat) : Int) := by rw [wrap_in (by omega) (by omega)]; omega
    have e2 : wrap64 ((l.length : Int) - (t : Int)) = ((l.length - t : Nat) : Int) := by rw [wrap_in (by omega) (by omega)]; omega
    refine Ev.for_ (l := fun i r => wayfinderlaw11_DrawAll.l4 r m (l.length : Int) (ranksL l) (rowL D l.length t) D (t : Int) (i : Int)) (g := fun r => wayfinderlaw11_DrawAll.l3 r m (l.length : Int) (ranksL l) (((rowL D l.length t).set t (rd (rowL D l.length t) (a : Int))).set a (rd (rowL D l.length t) (t : Int))) (D ++ [((a - t : Nat) : Int) + q * ((l.length - t : Nat) : Int)]) ((t + 1 : Nat) : Int)) hat (fun i hti hia r => ?_) (fun r => ?_) (hV _ rfl)
    · have hne : ¬ rd (rowL D l.length t) (i : Int) = rd (ranksL l) (t : Int) := by
        rw [rowL_rd (by omega), ranksL_rd htn]
        intro h
        have h2 := rowF_inj D l.length t i a (by rw [hae]; exact Int.ofNat_inj.1 h)
        omega
      simp only [wayfinderlaw11_DrawAll.l4]
      rw [if_pos (by omega), if_pos (by omega), if_pos (by omega), if_pos (by omega), if_neg hne, wrap_succ (by omega)]
    · have heq : rd (rowL D l.length t) (a : Int) = rd (ranksL l) (t : Int) := by rw [rowL_rd han, ranksL_rd htn, hae]
      simp only [wayfinderlaw11_DrawAll.l4]
      rw [if_pos (by omega), if_pos (by omega), if_pos (by omega), if_pos (by omega), if_pos heq, e1, e2]
      by_cases hc : (t : Int) < (m.length : Int)
      · have hb : 0 ≤ rd m (t : Int) := by
          have h2 : t < m.length := by omega
          rw [rd_get h2]
          exact (hm _ (List.getElem_mem h2)).1
        rw [if_pos hc] at hq
        rw [if_pos hc, if_pos (by omega), if_pos (by omega), Int.tmod_eq_emod_of_nonneg hb, ← hq, v1, Int.toNat_natCast, Int.toNat_natCast, wrap_succ (by omega)]
      · rw [if_neg hc] at hq
        rw [if_neg hc, if_pos (by omega), if_pos (by omega), ← hq, v1, Int.toNat_natCast, Int.toNat_natCast, wrap_succ (by omega)]
theorem DrawAll : wayfinderlaw11_DrawAll.Pure := by
  intro l m hm0 hr0 hw0 hm1 hr1 hw1
  refine Ev.rounds ?_
  have hm : ∀ x ∈ m, 0 ≤ x ∧ x < 18446744073709551616 := fun x hx => by have := wf_u64 (hw1 x hx); omega
  have hs : Ev (fun r => wayfinderlaw11_DrawAll.j0 r l m (l.length : Int) true) true := Ev.step (f := fun _ => some true) (fun r => by simp only [wayfinderlaw11_DrawAll.j0]; rw [if_pos trivial]) (Ev.some_ _)
  unfold wayfinderlaw11_DrawAll.f
  refine Ev.bind lives_is (Ev.pos rfl ?_)
  by_cases h1 : (l.length : Int) < 1
  · exact Ev.pos h1 hs
  refine Ev.neg h1 ?_
  by_cases h2 : (l.length : Int) > 60
  · exact Ev.pos h2 hs
  refine Ev.neg h2 ?_
  by_cases h3 : (m.length : Int) > 60
  · rw [decide_eq_true h3]
    exact hs
  rw [decide_eq_false h3]
  have hn1 : 1 ≤ l.length := by omega
  have hn2 : l.length ≤ 60 := by omega
  refine Ev.step (f := fun r => wayfinderlaw11_DrawAll.l0 r l m (l.length : Int) (List.replicate l.length 0) 0) (fun r => by simp only [wayfinderlaw11_DrawAll.j0]; rw [if_neg (by simp), if_pos (by omega), Int.toNat_natCast, if_pos (by omega)]) ?_
  have z1 : (ranksL l).length = (List.replicate l.length (0 : Int)).length := by rw [ranksL_length]; simp
  have z0 : (List.replicate l.length (0 : Int)).length = l.length := by simp
  have s0 : List.replicate l.length (0 : Int) = mixL (ranksL l) (List.replicate l.length 0) 0 := by simp [mixL]
  have hall : mixL (ranksL l) (List.replicate l.length 0) l.length = ranksL l := by have := mixL_all z1; rwa [z0] at this
  rw [s0]
  refine Ev.forE (l := fun i r => wayfinderlaw11_DrawAll.l0 r l m (l.length : Int) (mixL (ranksL l) (List.replicate l.length 0) i) (i : Int)) (Nat.zero_le l.length) (fun i _ hi hnext => ?_) ?_
  · have hml : (mixL (ranksL l) (List.replicate l.length 0) i).length = l.length := by rw [mixL_length z1 (by omega), z0]
    have hset := mixL_set (i := i) z1 (by omega)
    have hat : rd (mixL (ranksL l) (List.replicate l.length 0) i) (i : Int) = 0 := by rw [mixL_at z1 (by omega)]; simp
    have hri : (ranksL l)[i]'(by rw [ranksL_length]; exact hi) = ((rankTo l i l.length : Nat) : Int) := by simp [ranksL, rankN]
    rw [hri] at hset
    rw [← hset] at hnext
    generalize mixL (ranksL l) (List.replicate l.length 0) i = S at *
    have hS0 : S = S.set i ((rankTo l i 0 : Nat) : Int) := by
      apply List.ext_getElem
      · simp
      · intro x a b
        rw [List.getElem_set]
        split
        · rename_i hix
          subst hix
          rw [rd_get a] at hat
          rw [hat]
          rfl
        · rfl
    refine Ev.step (f := fun r => wayfinderlaw11_DrawAll.l1 r l m (l.length : Int) (S.set i ((rankTo l i 0 : Nat) : Int)) (i : Int) 0) (fun r => by simp only [wayfinderlaw11_DrawAll.l0]; rw [if_pos (by omega), ← hS0]) ?_
    refine Ev.for_ (l := fun j r => wayfinderlaw11_DrawAll.l1 r l m (l.length : Int) (S.set i ((rankTo l i j : Nat) : Int)) (i : Int) (j : Int)) (g := fun r => wayfinderlaw11_DrawAll.l0 r l m (l.length : Int) (S.set i ((rankTo l i l.length : Nat) : Int)) ((i + 1 : Nat) : Int)) (Nat.zero_le l.length) (fun j _ hj r => ?_) (fun r => ?_) hnext
    · have hle := rankTo_le l i j
      have hrd : rd (S.set i ((rankTo l i j : Nat) : Int)) (i : Int) = ((rankTo l i j : Nat) : Int) := by rw [rd_get (by simp; omega)]; simp
      have hsl : (S.set i ((rankTo l i j : Nat) : Int)).length = l.length := by rw [List.length_set]; exact hml
      simp only [wayfinderlaw11_DrawAll.l1]
      rw [if_pos (by omega), if_pos (by omega), if_pos (by omega), if_pos (by omega), if_pos (by omega)]
      by_cases a1 : rd l (j : Int) < rd l (i : Int)
      · have hr : rankTo l i (j + 1) = rankTo l i j + 1 := by simp only [rankTo]; rw [if_pos (.inl a1)]
        rw [if_pos a1, if_pos (by omega), Int.toNat_natCast, hrd, wrap_succ (by omega), wrap_succ (by omega), List.set_set, hr]
      · rw [if_neg a1]
        by_cases a2 : rd l (j : Int) = rd l (i : Int)
        · rw [if_pos a2]
          by_cases a3 : (j : Int) < (i : Int)
          · have hr : rankTo l i (j + 1) = rankTo l i j + 1 := by simp only [rankTo]; rw [if_pos (.inr ⟨a2, by omega⟩)]
            rw [if_pos a3, if_pos (by omega), Int.toNat_natCast, hrd, wrap_succ (by omega), wrap_succ (by omega), List.set_set, hr]
          · have hr : rankTo l i (j + 1) = rankTo l i j := by
              simp only [rankTo]
              rw [if_neg]
              · rfl
              · rintro (h | h)
                · exact a1 h
                · omega
            rw [if_neg a3, wrap_succ (by omega), hr]
        · have hr : rankTo l i (j + 1) = rankTo l i j := by
            simp only [rankTo]
            rw [if_neg]
            · rfl
            · rintro (h | h)
              · exact a1 h
              · exact a2 h.1
          rw [if_neg a2, wrap_succ (by omega), hr]
    · simp only [wayfinderlaw11_DrawAll.l1]
      rw [if_neg (by omega), wrap_succ (by omega)]
  · refine Ev.step (f := fun r => wayfinderlaw11_DrawAll.l2 r m (l.length : Int) (ranksL l) (List.replicate l.length 0) 0) (fun r => by simp only [wayfinderlaw11_DrawAll.l0]; rw [if_neg (by omega), if_pos (by omega), Int.toNat_natCast, if_pos (by omega), hall]) ?_
    have y0 : List.replicate l.length (0 : Int) = mixL ((List.range l.length).map fun x : Nat => (x : Int)) (List.replicate l.length 0) 0 := by simp [mixL]
    have y1 : ((List.range l.length).map fun x : Nat => (x : Int)).length = (List.replicate l.length (0 : Int)).length := by simp
    rw [y0]
    refine Ev.for_ (l := fun i r => wayfinderlaw11_DrawAll.l2 r m (l.length : Int) (ranksL l) (mixL ((List.range l.length).map fun x : Nat => (x : Int)) (List.replicate l.length 0) i) (i : Int)) (g := fun r => wayfinderlaw11_DrawAll.l3 r m (l.length : Int) (ranksL l) (rowL [] l.length 0) [] 0) (Nat.zero_le l.length) (fun i _ hi r => ?_) (fun r => ?_) (rest_is hn1 hn2 hm (by omega) l.length 0 [] (by omega) rfl (fun x h => by simp at h) (fun s h => by omega))
    · have hlen : (mixL ((List.range l.length).map fun x : Nat => (x : Int)) (List.replicate l.length 0) i).length = l.length := by rw [mixL_length y1 (by omega), z0]
      have := mixL_set (a := (List.range l.length).map fun x : Nat => (x : Int)) (b := List.replicate l.length 0) (i := i) y1 (by omega)
      simp only [List.getElem_map, List.getElem_range] at this
      simp only [wayfinderlaw11_DrawAll.l2]
      rw [if_pos (by omega), if_pos (by omega), if_pos (by omega), Int.toNat_natCast, this, wrap_succ (by omega)]
    · simp only [wayfinderlaw11_DrawAll.l2]
      rw [if_neg (by omega)]
      have := mixL_all y1
      rw [z0] at this
      rw [this]
      rfl

end Go.Proofs.Ytkippapoicdlhaa.Pure
