/- The book's laws, plainly: distances of the reference, light, Dim. -/
import Derived.Test.YtpcacklmelokiaaEvP
import Derived.Test.YtpcacklmelokiaaBkx2
namespace Go.Proofs.Ytpcacklmelokiaa.Bk
open Go.RowKit Go.Proofs.YtpcacklmelokiaaW.PrintWords Go.Proofs.YtpcacklmelokiaaW.PrintLast Go.Proofs.Ytpcacklmelokiaa.G
set_option linter.unusedVariables false

theorem wideOk_mem {a : List Int} (h : checkWide a = 0) : 1 ≤ a.length ∧ a.length ≤ 1024 ∧ ∀ x ∈ a, -131072 ≤ x ∧ x ≤ 131072 := by
  obtain ⟨h1, h2, h3⟩ := wide_of h
  refine ⟨h1, h2, fun x hx => ?_⟩
  obtain ⟨i, hi, rfl⟩ := List.getElem_of_mem hx
  have := h3 i hi
  rw [List.getD_eq_getElem?_getD, List.getElem?_eq_getElem hi] at this
  exact this
theorem checkWide_of {a : List Int} (h1 : 1 ≤ a.length) (h2 : a.length ≤ 1024) (h3 : ∀ x ∈ a, -131072 ≤ x ∧ x ≤ 131072) : checkWide a = 0 := by
  unfold checkWide
  rw [if_neg (by omega), if_neg]
  simp only [List.any_eq_true, not_exists, not_and]
  intro x hx
  have := h3 x hx
  simp only [beyond, Bool.or_eq_true, decide_eq_true_eq]
  omega
/-- One step of the sum, as the reference has it. -/
theorem dist_step {a b : List Int} (ha : ∀ j, j < a.length → wideOk (a.getD j 0)) (hb : ∀ j, j < a.length → wideOk (b.getD j 0)) (hn : a.length ≤ 1024) {i : Nat} (h1 : i < a.length) :
    wrap64 (distTo a b i + wrap64 (wrap64 (wrap64 (rd a (i : Int)) - wrap64 (rd b (i : Int))) * wrap64 (wrap64 (rd a (i : Int)) - wrap64 (rd b (i : Int))))) = distTo a b (i + 1) := by
  have r1 := ha i h1
  have r2 := hb i h1
  have s := sq_bound r1 r2
  have t := distTo_bound ha hb i (by omega)
  simp only [rd_nat, distTo]
  unfold wideOk at r1 r2
  have e : (a.getD i 0 - b.getD i 0) * (a.getD i 0 - b.getD i 0) = sq (a.getD i 0) (b.getD i 0) := rfl
  rw [wrap_in (x := a.getD i 0) (by omega) (by omega), wrap_in (x := b.getD i 0) (by omega) (by omega), wrap_in (x := a.getD i 0 - b.getD i 0) (by omega) (by omega), e]
  generalize sq (a.getD i 0) (b.getD i 0) = q at *
  generalize distTo a b i = d at *
  rw [wrap_in (x := q) (by omega) (by omega), wrap_in (by omega) (by omega)]
theorem rCheckWide_is (a : List Int) (hm : a.length ≤ 140737488351232) : Ev (fun k => wayfinderref03_CheckWide.f k a) (checkWide a) := by
  unfold wayfinderref03_CheckWide.f checkWide
  by_cases h1 : a.length < 1
  · rw [if_pos (.inl h1)]
    exact Ev.pos (by omega) (Ev.step (f := fun _ => some 2) (fun k => by simp only [wayfinderref03_CheckWide.j0]; rw [if_pos trivial]) (Ev.some_ 2))
  · refine Ev.neg (by omega) ?_
    by_cases h2 : a.length > 1024
    · rw [if_pos (.inr h2)]
      exact Ev.step (f := fun _ => some 2) (fun k => by simp only [wayfinderref03_CheckWide.j0]; rw [if_pos (by simp; omega)]) (Ev.some_ 2)
    · rw [if_neg (by omega)]
      refine Ev.step (fun k => by simp only [wayfinderref03_CheckWide.j0]; rw [if_neg (by simp; omega)]) ?_
      by_cases h3 : a.any beyond = true
      · rw [if_pos h3]
        have hex : ∃ i, i < a.length ∧ beyond (rd a (i : Int)) = true := by
          obtain ⟨x, hx, hb⟩ := List.any_eq_true.1 h3
          obtain ⟨i, hi, rfl⟩ := List.mem_iff_getElem.1 hx
          exact ⟨i, hi, by rw [rd_get hi]; exact hb⟩
        obtain ⟨n, ⟨hn, hb⟩, hmin⟩ := least hex
        refine Ev.for_ (l := fun i k => wayfinderref03_CheckWide.l0 k a (i : Int)) (g := fun _ => some 11) (Nat.zero_le n) (fun i _ hi k => ?_) (fun k => ?_) (Ev.some_ 11)
        · have h4 : ¬ beyond (rd a (i : Int)) = true := fun h => hmin i hi ⟨by omega, h⟩
          simp only [beyond, Bool.or_eq_true, decide_eq_true_eq] at h4
          simp only [wayfinderref03_CheckWide.l0]
          rw [if_pos (by omega), if_pos (by omega), if_neg (by omega), if_neg (by omega), wrap_succ (by omega)]
        · simp only [beyond, Bool.or_eq_true, decide_eq_true_eq] at hb
          simp only [wayfinderref03_CheckWide.l0]
          rw [if_pos (by omega), if_pos (by omega)]
          by_cases h5 : rd a (n : Int) < -131072
          · rw [if_pos h5]
          · rw [if_neg h5, if_pos (by omega)]
      · rw [if_neg h3]
        simp only [List.any_eq_true, not_exists, not_and] at h3
        refine Ev.for_ (l := fun i k => wayfinderref03_CheckWide.l0 k a (i : Int)) (g := fun _ => some 0) (Nat.zero_le a.length) (fun i _ hi k => ?_) (fun k => ?_) (Ev.some_ 0)
        · have h4 := h3 _ (List.getElem_mem hi)
          rw [← rd_get hi] at h4
          simp only [beyond, Bool.or_eq_true, decide_eq_true_eq] at h4
          simp only [wayfinderref03_CheckWide.l0]
          rw [if_pos (by omega), if_pos (by omega), if_neg (by omega), if_neg (by omega), wrap_succ (by omega)]
        · simp only [wayfinderref03_CheckWide.l0]
          rw [if_neg (by omega)]
theorem rboth_is (a b : List Int) (ha : a.length ≤ 140737488351232) (hb : b.length ≤ 140737488351232) : Ev (fun k => wayfinderref03_both.f k a b) (pairE a b) := by
  unfold wayfinderref03_both.f
  refine Ev.bind (rCheckWide_is a ha) ?_
  by_cases h1 : checkWide a = 0
  · refine Ev.pos h1 (Ev.bind (rCheckWide_is b hb) ?_)
    by_cases h2 : checkWide b = 0
    · refine Ev.pos h2 ?_
      by_cases h3 : a.length = b.length
      · rw [show pairE a b = checkWide b by simp [pairE, h1, h2, h3]]
        exact Ev.pos (by omega) (Ev.some_ _)
      · rw [show pairE a b = 2 by simp [pairE, h1, h2, h3]]
        exact Ev.neg (by omega) (Ev.some_ _)
    · rw [show pairE a b = checkWide b by simp [pairE, h1, h2]]
      exact Ev.neg h2 (Ev.some_ _)
  · rw [show pairE a b = checkWide a by simp [pairE, h1]]
    exact Ev.neg h1 (Ev.some_ _)
theorem rDist_is (a b : List Int) (ha : a.length ≤ 140737488351232) (hb : b.length ≤ 140737488351232) : Ev (fun k => wayfinderref03_Dist.f k a b) (distV a b, pairE a b) := by
  unfold wayfinderref03_Dist.f
  refine Ev.bind (rboth_is a b ha hb) ?_
  by_cases h : pairE a b = 0
  · obtain ⟨h1, h2, h3⟩ := pairE_ok h
    obtain ⟨a1, a2, a3⟩ := wide_of h1
    obtain ⟨b1, b2, b3⟩ := wide_of h2
    have hv : distV a b = distTo a b a.length := by unfold distV; rw [if_pos h]
    rw [hv, h]
    refine Ev.pos rfl ?_
    exact Ev.for_ (l := fun i k => wayfinderref03_Dist.l0 k a b (distTo a b i) (i : Int)) (g := fun _ => some (distTo a b a.length, 0)) (Nat.zero_le a.length) (fun i _ hi k => by
        simp only [wayfinderref03_Dist.l0]
        rw [if_pos (by omega), if_pos (by omega), if_pos (by omega), dist_step a3 (fun j hj => b3 j (by omega)) a2 hi, wrap_succ (by omega)])
      (fun k => by simp only [wayfinderref03_Dist.l0]; rw [if_neg (by omega)]) (Ev.some_ _)
  · have hv : distV a b = 0 := by unfold distV; rw [if_neg h]
    rw [hv]
    exact Ev.neg h (Ev.some_ _)
theorem down {ρ : Type} {l : Nat → Nat → Option ρ} {n : Nat} (he : ∃ r, Ev (l n) r) (h : ∀ i, i < n → (∃ r, Ev (l (i + 1)) r) → ∃ r, Ev (l i) r) : ∀ i, i ≤ n → ∃ r, Ev (l i) r := by
  intro i hi
  obtain ⟨d, rfl⟩ : ∃ d, n = i + d := ⟨n - i, by omega⟩
  clear hi
  induction d generalizing i with
  | zero => exact he
  | succ d ih => exact h i (by omega) (ih (i + 1) (by rw [show i + 1 + d = i + (d + 1) by omega]; exact he) (fun j hj => h j (by omega)))
theorem Light_ev (l : List (List Int)) (m : Int) : ∃ r, Ev (fun k => wayfinderkit_Light_int32.f k l 260 m) r := by
  unfold wayfinderkit_Light_int32.f
  by_cases h1 : (l.length : Int) > 260
  · exact ⟨false, Ev.pos h1 (Ev.some_ _)⟩
  · obtain ⟨r, hr⟩ := down (l := fun i k => wayfinderkit_Light_int32.l0 k l m (i : Int)) (n := l.length) ⟨true, Ev.step (f := fun _ => some true) (fun k => by simp only [wayfinderkit_Light_int32.l0]; rw [if_neg (by omega)]) (Ev.some_ _)⟩ (fun i hi ⟨r, hr⟩ => by
      by_cases h2 : ((rd_L2 l (i : Int)).length : Int) > m
      · exact ⟨false, Ev.step (f := fun _ => some false) (fun k => by simp only [wayfinderkit_Light_int32.l0]; rw [if_pos (by omega), if_pos (by omega), if_pos h2]) (Ev.some_ _)⟩
      · exact ⟨r, Ev.step (fun k => by simp only [wayfinderkit_Light_int32.l0]; rw [if_pos (by omega), if_pos (by omega), if_neg h2, wrap_succ (by omega)]) hr⟩) 0 (Nat.zero_le _)
    exact ⟨r, Ev.neg h1 hr⟩
theorem light_ev (b : List (List (List Int))) : ∃ r, Ev (fun k => wayfinderlaw15_light.f k b) r := by
  unfold wayfinderlaw15_light.f
  suffices h : ∃ r, Ev (fun k => wayfinderkit_LightBook.f k b 30 260 60) r by
    obtain ⟨r, hr⟩ := h
    exact ⟨r, Ev.bind hr (Ev.some_ _)⟩
  unfold wayfinderkit_LightBook.f
  by_cases h1 : (b.length : Int) > 30
  · exact ⟨false, Ev.pos h1 (Ev.some_ _)⟩
  · obtain ⟨r, hr⟩ := down (l := fun i k => wayfinderkit_LightBook.l0 k 260 60 (i : Int) b) (n := b.length) ⟨true, Ev.step (f := fun _ => some true) (fun k => by simp only [wayfinderkit_LightBook.l0]; rw [if_neg (by omega)]) (Ev.some_ _)⟩ (fun i hi ⟨r, hr⟩ => by
      obtain ⟨q, hq⟩ := Light_ev (rd_L3 b (i : Int)) 60
      have hs : ∀ k, wayfinderkit_LightBook.l0 (k + 1) 260 60 (i : Int) b = (wayfinderkit_Light_int32.f k (rd_L3 b (i : Int)) 260 60).bind fun t => if t = true then wayfinderkit_LightBook.l0 k 260 60 ((i + 1 : Nat) : Int) b else some false := fun k => by
        simp only [wayfinderkit_LightBook.l0]
        rw [if_pos (by omega), if_pos (by omega), wrap_succ (by omega)]
      cases q with
      | true => exact ⟨r, Ev.step hs (Ev.bind hq (Ev.pos rfl hr))⟩
      | false => exact ⟨false, Ev.step hs (Ev.bind hq (Ev.neg (by decide) (Ev.some_ _)))⟩) 0 (Nat.zero_le _)
    exact ⟨r, Ev.neg h1 hr⟩
end Go.Proofs.Ytpcacklmelokiaa.Bk
