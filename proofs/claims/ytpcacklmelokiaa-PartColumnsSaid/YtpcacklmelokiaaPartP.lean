/- Distances and parts, plainly. -/
import Derived.Test.YtpcacklmelokiaaPartK
import Derived.Test.YtpcacklmelokiaaPax3
namespace Go.Proofs.Ytpcacklmelokiaa.Pa
open Go.RowKit Go.Proofs.YtpcacklmelokiaaW.PrintWords Go.Proofs.YtpcacklmelokiaaW.PrintLast Go.Proofs.Ytpcacklmelokiaa.G
set_option linter.unusedVariables false

/-- Two vectors: may they be taken together? -/
def pairE (a b : List Int) : Int := if checkWide a ≠ 0 then checkWide a else if checkWide b ≠ 0 then checkWide b else if a.length = b.length then 0 else 2
/-- The sum of the squares of the first i differences. -/
def sqTo (a b : List Int) : Nat → Int
  | 0 => 0
  | i + 1 => sqTo a b i + (rd a (i : Int) - rd b (i : Int)) * (rd a (i : Int) - rd b (i : Int))
def sqd (a b : List Int) : Int := sqTo a b a.length
theorem checkWide_ok {a : List Int} (h : checkWide a = 0) : 1 ≤ a.length ∧ a.length ≤ 1024 ∧ ∀ x ∈ a, -131072 ≤ x ∧ x ≤ 131072 := by
  unfold checkWide at h
  split at h
  · omega
  · split at h
    · omega
    · rename_i h1 h2
      refine ⟨by omega, by omega, fun x hx => ?_⟩
      simp only [List.any_eq_true, not_exists, not_and] at h2
      have := h2 x hx
      simp only [beyond, Bool.or_eq_true, decide_eq_true_eq] at this
      omega
theorem checkWide_of {a : List Int} (h1 : 1 ≤ a.length) (h2 : a.length ≤ 1024) (h3 : ∀ x ∈ a, -131072 ≤ x ∧ x ≤ 131072) : checkWide a = 0 := by
  unfold checkWide
  rw [if_neg (by omega), if_neg]
  simp only [List.any_eq_true, not_exists, not_and]
  intro x hx
  have := h3 x hx
  simp only [beyond, Bool.or_eq_true, decide_eq_true_eq]
  omega
theorem pairE_ok {a b : List Int} (h : pairE a b = 0) : checkWide a = 0 ∧ checkWide b = 0 ∧ a.length = b.length := by
  unfold pairE at h
  split at h
  · omega
  · split at h
    · omega
    · split at h
      · exact ⟨by omega, by omega, by assumption⟩
      · omega
theorem rd_in {a : List Int} (h : ∀ x ∈ a, -131072 ≤ x ∧ x ≤ 131072) {i : Nat} (hi : i < a.length) : -131072 ≤ rd a (i : Int) ∧ rd a (i : Int) ≤ 131072 := by
  rw [rd_get hi]
  exact h _ (List.getElem_mem hi)
theorem square_bd {x y : Int} (hx : -131072 ≤ x ∧ x ≤ 131072) (hy : -131072 ≤ y ∧ y ≤ 131072) : 0 ≤ (x - y) * (x - y) ∧ (x - y) * (x - y) ≤ 68719476736 := by
  refine ⟨mul_self_nonneg' _, ?_⟩
  rcases Int.le_total 0 (x - y) with h | h
  · exact Int.le_trans (Int.mul_le_mul (show x - y ≤ 262144 by omega) (show x - y ≤ 262144 by omega) h (by omega)) (by omega)
  · have e : (x - y) * (x - y) = (y - x) * (y - x) := by rw [← Int.neg_mul_neg]; congr 1 <;> omega
    rw [e]
    exact Int.le_trans (Int.mul_le_mul (show y - x ≤ 262144 by omega) (show y - x ≤ 262144 by omega) (by omega) (by omega)) (by omega)
theorem sqTo_bd {a b : List Int} (ha : ∀ x ∈ a, -131072 ≤ x ∧ x ≤ 131072) (hb : ∀ x ∈ b, -131072 ≤ x ∧ x ≤ 131072) : ∀ i, i ≤ a.length → i ≤ b.length → 0 ≤ sqTo a b i ∧ sqTo a b i ≤ 68719476736 * i
  | 0, _, _ => by simp [sqTo]
  | i + 1, h1, h2 => by
    have ih := sqTo_bd ha hb i (by omega) (by omega)
    have := square_bd (rd_in ha (show i < a.length by omega)) (rd_in hb (show i < b.length by omega))
    simp only [sqTo]
    omega
/-- One step of the sum, as both programs have it. -/
theorem sq_step {a b : List Int} (ha : ∀ x ∈ a, -131072 ≤ x ∧ x ≤ 131072) (hb : ∀ x ∈ b, -131072 ≤ x ∧ x ≤ 131072) (hn : a.length ≤ 1024) {i : Nat} (h1 : i < a.length) (h2 : i < b.length) :
    wrap64 (sqTo a b i + wrap64 (wrap64 (wrap64 (rd a (i : Int)) - wrap64 (rd b (i : Int))) * wrap64 (wrap64 (rd a (i : Int)) - wrap64 (rd b (i : Int))))) = sqTo a b (i + 1) := by
  have r1 := rd_in ha h1
  have r2 := rd_in hb h2
  have s := square_bd r1 r2
  have t := sqTo_bd ha hb i (by omega) (by omega)
  rw [wrap_in (x := rd a (i : Int)) (by omega) (by omega), wrap_in (x := rd b (i : Int)) (by omega) (by omega), wrap_in (x := rd a (i : Int) - rd b (i : Int)) (by omega) (by omega), wrap_in (x := (rd a (i : Int) - rd b (i : Int)) * (rd a (i : Int) - rd b (i : Int))) (by omega) (by omega), wrap_in (by omega) (by omega)]
  rfl

theorem pair_is (a b : List Int) : Ev (fun k => vec_pair.f k a b) (pairE a b) := by
  unfold vec_pair.f
  refine Ev.bindc (a := [a, b]) rfl ?_
  change Ev (fun k => vec_pair.l0 k a b [a, b] 2 0) (pairE a b)
  have w1 : wrap64 (0 + 1) = 1 := by unfold wrap64; omega
  have w2 : wrap64 (1 + 1) = 2 := by unfold wrap64; omega
  have hl : ((([a, b] : List (List Int)).length : Nat) : Int) = 2 := rfl
  have s0 : ∀ k, vec_pair.l0 (k + 1) a b [a, b] 2 0 = if checkWide a = 0 then vec_pair.l0 k a b [a, b] 2 1 else some (checkWide a) := fun k => by
    simp only [vec_pair.l0, w1, hl]
    rfl
  have s1 : ∀ k, vec_pair.l0 (k + 1) a b [a, b] 2 1 = if checkWide b = 0 then vec_pair.l0 k a b [a, b] 2 2 else some (checkWide b) := fun k => by
    simp only [vec_pair.l0, w2, hl]
    rfl
  have s2 : ∀ k, vec_pair.l0 (k + 1) a b [a, b] 2 2 = if (a.length : Int) = (b.length : Int) then some 0 else some 2 := fun k => by
    simp only [vec_pair.l0]
    rfl
  refine Ev.step s0 ?_
  by_cases h1 : checkWide a = 0
  · refine Ev.pos h1 (Ev.step s1 ?_)
    by_cases h2 : checkWide b = 0
    · refine Ev.pos h2 (Ev.step s2 ?_)
      by_cases h3 : a.length = b.length
      · rw [show pairE a b = 0 by simp [pairE, h1, h2, h3]]
        exact Ev.pos (by omega) (Ev.some_ 0)
      · rw [show pairE a b = 2 by simp [pairE, h1, h2, h3]]
        exact Ev.neg (by omega) (Ev.some_ 2)
    · rw [show pairE a b = checkWide b by simp [pairE, h1, h2]]
      exact Ev.neg h2 (Ev.some_ _)
  · rw [show pairE a b = checkWide a by simp [pairE, h1]]
    exact Ev.neg h1 (Ev.some_ _)
theorem vDist_is (a b : List Int) : Ev (fun k => vec_Dist.f k a b) (if pairE a b = 0 then (sqd a b, 0) else (0, pairE a b)) := by
  unfold vec_Dist.f
  refine Ev.bind (pair_is a b) ?_
  by_cases h : pairE a b = 0
  · obtain ⟨h1, h2, h3⟩ := pairE_ok h
    obtain ⟨a1, a2, a3⟩ := checkWide_ok h1
    obtain ⟨b1, b2, b3⟩ := checkWide_ok h2
    rw [if_pos h]
    refine Ev.pos h ?_
    exact Ev.for_ (l := fun i k => vec_Dist.l0 k b (sqTo a b i) a (a.length : Int) (i : Int)) (g := fun _ => some (sqd a b, 0)) (Nat.zero_le a.length) (fun i _ hi k => by
        simp only [vec_Dist.l0]
        rw [if_pos (by omega), if_pos (by omega), if_pos (by omega), if_pos (by omega), sq_step a3 b3 a2 hi (by omega), wrap_succ (by omega)])
      (fun k => by simp only [vec_Dist.l0]; rw [if_neg (by omega)]; rfl) (Ev.some_ _)
  · rw [if_neg h]
    exact Ev.neg h (Ev.some_ _)

theorem rCheckWide_is (a : List Int) (hm : a.length ≤ 140737488351232) : Ev (fun k => wayfinderref03_CheckWide.f k a) (checkWide a) := by
  unfold wayfinderref03_CheckWide.f checkWide
  by_cases h1 : a.length < 1
  · rw [if_pos (.inl h1)]
    exact Ev.pos (by omega) (Ev.step (f := fun _ => some 2) (fun k => by simp only [wayfinderref03_CheckWide.j0]; rw [if_pos trivial]) (Ev.some_ 2))
  · refine Ev.neg (by omega) ?_
    by_cases h2 : a.length > 1024
    · rw [if_pos (.inr h2)]
      exact Ev.step (f := fun _ => some 2) (fun k => by simp only [wayfinderref03_CheckWide.j0]; rw [if_pos (by simp; omega)]) (Ev.some_ 2)
    · rw [if_neg (by omega)]
      refine Ev.step (fun k => by simp only [wayfinderref03_CheckWide.j0]; rw [if_neg (by simp; omega)]) ?_
      by_cases h3 : a.any beyond = true
      · rw [if_pos h3]
        have hex : ∃ i, i < a.length ∧ beyond (rd a (i : Int)) = true := by
          obtain ⟨x, hx, hb⟩ := List.any_eq_true.1 h3
          obtain ⟨i, hi, rfl⟩ := List.mem_iff_getElem.1 hx
          exact ⟨i, hi, by rw [rd_get hi]; exact hb⟩
        obtain ⟨n, ⟨hn, hb⟩, hmin⟩ := least hex
        refine Ev.for_ (l := fun i k => wayfinderref03_CheckWide.l0 k a (i : Int)) (g := fun _ => some 11) (Nat.zero_le n) (fun i _ hi k => ?_) (fun k => ?_) (Ev.some_ 11)
        · have h4 : ¬ beyond (rd a (i : Int)) = true := fun h => hmin i hi ⟨by omega, h⟩
          simp only [beyond, Bool.or_eq_true, decide_eq_true_eq] at h4
          simp only [wayfinderref03_CheckWide.l0]
          rw [if_pos (by omega), if_pos (by omega), if_neg (by omega), if_neg (by omega), wrap_succ (by omega)]
        · simp only [beyond, Bool.or_eq_true, decide_eq_true_eq] at hb
          simp only [wayfinderref03_CheckWide.l0]
          rw [if_pos (by omega), if_pos (by omega)]
          by_cases h5 : rd a (n : Int) < -131072
          · rw [if_pos h5]
          · rw [if_neg h5, if_pos (by omega)]
      · rw [if_neg h3]
        simp only [List.any_eq_true, not_exists, not_and] at h3
        refine Ev.for_ (l := fun i k => wayfinderref03_CheckWide.l0 k a (i : Int)) (g := fun _ => some 0) (Nat.zero_le a.length) (fun i _ hi k => ?_) (fun k => ?_) (Ev.some_ 0)
        · have h4 := h3 _ (List.getElem_mem hi)
          rw [← rd_get hi] at h4
          simp only [beyond, Bool.or_eq_true, decide_eq_true_eq] at h4
          simp only [wayfinderref03_CheckWide.l0]
          rw [if_pos (by omega), if_pos (by omega), if_neg (by omega), if_neg (by omega), wrap_succ (by omega)]
        · simp only [wayfinderref03_CheckWide.l0]
          rw [if_neg (by omega)]
theorem rboth_is (a b : List Int) (ha : a.length ≤ 140737488351232) (hb : b.length ≤ 140737488351232) : Ev (fun k => wayfinderref03_both.f k a b) (pairE a b) := by
  unfold wayfinderref03_both.f
  refine Ev.bind (rCheckWide_is a ha) ?_
  by_cases h1 : checkWide a = 0
  · refine Ev.pos h1 (Ev.bind (rCheckWide_is b hb) ?_)
    by_cases h2 : checkWide b = 0
    · refine Ev.pos h2 ?_
      by_cases h3 : a.length = b.length
      · rw [show pairE a b = checkWide b by simp [pairE, h1, h2, h3]]
        exact Ev.pos (by omega) (Ev.some_ _)
      · rw [show pairE a b = 2 by simp [pairE, h1, h2, h3]]
        exact Ev.neg (by omega) (Ev.some_ _)
    · rw [show pairE a b = checkWide b by simp [pairE, h1, h2]]
      exact Ev.neg h2 (Ev.some_ _)
  · rw [show pairE a b = checkWide a by simp [pairE, h1]]
    exact Ev.neg h1 (Ev.some_ _)
theorem rDist_is (a b : List Int) (ha : a.length ≤ 140737488351232) (hb : b.length ≤ 140737488351232) : Ev (fun k => wayfinderref03_Dist.f k a b) (if pairE a b = 0 then (sqd a b, 0) else (0, pairE a b)) := by
  unfold wayfinderref03_Dist.f
  refine Ev.bind (rboth_is a b ha hb) ?_
  by_cases h : pairE a b = 0
  · obtain ⟨h1, h2, h3⟩ := pairE_ok h
    obtain ⟨a1, a2, a3⟩ := checkWide_ok h1
    obtain ⟨b1, b2, b3⟩ := checkWide_ok h2
    rw [if_pos h]
    refine Ev.pos h ?_
    exact Ev.for_ (l := fun i k => wayfinderref03_Dist.l0 k a b (sqTo a b i) (i : Int)) (g := fun _ => some (sqd a b, 0)) (Nat.zero_le a.length) (fun i _ hi k => by
        simp only [wayfinderref03_Dist.l0]
        rw [if_pos (by omega), if_pos (by omega), if_pos (by omega), sq_step a3 b3 a2 hi (by omega), wrap_succ (by omega)])
      (fun k => by simp only [wayfinderref03_Dist.l0]; rw [if_neg (by omega)]; rfl) (Ev.some_ _)
  · rw [if_neg h]
    exact Ev.neg h (Ev.some_ _)

end Go.Proofs.Ytpcacklmelokiaa.Pa
