/- The reference's Decode, Word, Loss, plainly: as the book's. -/
import Derived.Test.YteickelddnhdiaaBookQ
import Derived.Test.YteickelddnhdiaaBkx8
import Derived.Test.YteickelddnhdiaaBkx10
namespace Go.Proofs.Yteickelddnhdiaa.Bk
open Go.RowKit Go.Proofs.YteickelddnhdiaaW.PrintWords Go.Proofs.YteickelddnhdiaaW.PrintLast Go.Proofs.Yteickelddnhdiaa.G
set_option linter.unusedVariables false
theorem loop_ok {ρ : Type} {l : Nat → Nat → Option ρ} {bad : Nat → Prop} {n : Nat} {r : ρ} (ok : ∀ i, i < n → ¬ bad i → Ev (l (i + 1)) r → Ev (l i) r) (hall : ∀ i, i < n → ¬ bad i) (he : Ev (l n) r) : Ev (l 0) r :=
  Ev.forE (l := l) (Nat.zero_le n) (fun i _ hi h => ok i hi (hall i hi) h) he
theorem loop_bad {ρ : Type} {l : Nat → Nat → Option ρ} {bad : Nat → Prop} {n : Nat} {r : ρ} (ok : ∀ i, i < n → ¬ bad i → Ev (l (i + 1)) r → Ev (l i) r) (hex : ∃ i, i < n ∧ bad i) (hb : ∀ i, i < n → bad i → Ev (l i) r) : Ev (l 0) r := by
  obtain ⟨i0, ⟨h1, h2⟩, hmin⟩ := least (p := fun i => i < n ∧ bad i) hex
  exact Ev.forE (l := l) (Nat.zero_le i0) (fun i _ hi h => ok i (by omega) (fun hb => hmin i hi ⟨by omega, hb⟩) h) (hb i0 h1 h2)
theorem evShift {α : Type} {f g : Nat → Option α} {r : α} (hm : ∀ k, f (k + 1) = g k) (h : Ev g r) : Ev f r := Ev.step hm h
section
variable (b : List (List (List Int))) (hb0 : b.length ≤ 1024) (hb1 : ∀ l ∈ b, l.length ≤ 1000000)
/-- Light books: as many parts, words, numbers as are gone through. -/
structure LightB (b : List (List (List Int))) : Prop where
  l0 : b.length ≤ 1000000
  l1 : ∀ l ∈ b, l.length ≤ 1000000
  l2 : ∀ l ∈ b, ∀ v ∈ l, v.length ≤ 1000000
theorem rd3 {b : List (List (List Int))} (i : Nat) : rd_L3 b (i : Int) = b.getD i [] := rfl
theorem rd2 {l : List (List Int)} (i : Nat) : rd_L2 l (i : Int) = l.getD i [] := rfl
theorem LightB.n {b : List (List (List Int))} (h : LightB b) (i : Nat) : (b.getD i []).length ≤ 1000000 := by
  by_cases hi : i < b.length
  · exact h.l1 _ (getD_mem hi)
  · rw [List.getD_eq_getElem?_getD, List.getElem?_eq_none (by omega)]; simp
theorem LightB.m {b : List (List (List Int))} (h : LightB b) (i j : Nat) : ((b.getD i []).getD j []).length ≤ 1000000 := by
  by_cases hi : i < b.length
  · by_cases hj : j < (b.getD i []).length
    · exact h.l2 _ (getD_mem hi) _ (getD_mem hj)
    · rw [List.getD_eq_getElem?_getD (l := b.getD i []), List.getElem?_eq_none (by omega)]; simp
  · rw [List.getD_eq_getElem?_getD (l := b), List.getElem?_eq_none (by omega)]; simp
end
/-- The second half: the words are wide. -/
theorem check_wide {b : List (List (List Int))} (hl : LightB b) (N : Nat) (hN : ∀ l ∈ b, l.length = N) :
    Ev (fun k => wayfinderref15_Check.l2 k (b.length : Int) (N : Int) 0 b) (if b.any (fun l => l.any (fun v => checkWide v != 0)) then 11 else 0) := by
  have hl0 := hl.l0
  have row : ∀ i, i < b.length → ∀ r, (∀ j, j < N → ¬ checkWide ((b.getD i []).getD j []) ≠ 0) → Ev (fun k => wayfinderref15_Check.l2 k (b.length : Int) (N : Int) ((i + 1 : Nat) : Int) b) r → Ev (fun k => wayfinderref15_Check.l3 k (b.length : Int) (N : Int) (i : Int) ((0 : Nat) : Int) b) r := fun i hi r hall he => by
    have hn : (b.getD i []).length = N := hN _ (getD_mem hi)
    have hnl := hl.n i
    refine loop_ok (l := fun j k => wayfinderref15_Check.l3 k (b.length : Int) (N : Int) (i : Int) (j : Int) b) (bad := fun j => checkWide ((b.getD i []).getD j []) ≠ 0) (n := N) (fun j hj hb h => ?_) hall ?_
    · refine evShift (fun k => by simp only [wayfinderref15_Check.l3]; rw [if_pos (by omega), if_pos (by omega), if_pos (by omega), if_pos (by omega), rd3, if_pos (by omega), rd2, wrap_succ (by omega)]) ?_
      exact Ev.bind (rCheckWide_is _ (by have := hl.m i j; omega)) (Ev.pos (by simpa using hb) h)
    · exact evShift (fun k => by simp only [wayfinderref15_Check.l3]; rw [if_neg (by omega), wrap_succ (by omega)]) he
  have rowb : ∀ i, i < b.length → (∃ j, j < N ∧ checkWide ((b.getD i []).getD j []) ≠ 0) → Ev (fun k => wayfinderref15_Check.l3 k (b.length : Int) (N : Int) (i : Int) ((0 : Nat) : Int) b) 11 := fun i hi hex => by
    have hn : (b.getD i []).length = N := hN _ (getD_mem hi)
    have hnl := hl.n i
    refine loop_bad (l := fun j k => wayfinderref15_Check.l3 k (b.length : Int) (N : Int) (i : Int) (j : Int) b) (bad := fun j => checkWide ((b.getD i []).getD j []) ≠ 0) (n := N) (fun j hj hb h => ?_) hex (fun j hj hb => ?_)
    · refine evShift (fun k => by simp only [wayfinderref15_Check.l3]; rw [if_pos (by omega), if_pos (by omega), if_pos (by omega), if_pos (by omega), rd3, if_pos (by omega), rd2, wrap_succ (by omega)]) ?_
      exact Ev.bind (rCheckWide_is _ (by have := hl.m i j; omega)) (Ev.pos (by simpa using hb) h)
    · refine evShift (fun k => by simp only [wayfinderref15_Check.l3]; rw [if_pos (by omega), if_pos (by omega), if_pos (by omega), if_pos (by omega), rd3, if_pos (by omega), rd2, wrap_succ (by omega)]) ?_
      exact Ev.bind (rCheckWide_is _ (by have := hl.m i j; omega)) (Ev.neg hb (Ev.some_ _))
  have step : ∀ i, i < b.length → ∀ k, wayfinderref15_Check.l2 (k + 1) (b.length : Int) (N : Int) (i : Int) b = wayfinderref15_Check.l3 k (b.length : Int) (N : Int) (i : Int) ((0 : Nat) : Int) b := fun i hi k => by
    simp only [wayfinderref15_Check.l2]
    rw [if_pos (by omega)]
    rfl
  by_cases hex : ∃ i, i < b.length ∧ ∃ j, j < N ∧ checkWide ((b.getD i []).getD j []) ≠ 0
  · have he : b.any (fun l => l.any (fun v => checkWide v != 0)) = true := by
      obtain ⟨i, hi, j, hj, h⟩ := hex
      rw [List.any_eq_true]
      refine ⟨b.getD i [], getD_mem hi, ?_⟩
      rw [List.any_eq_true]
      exact ⟨(b.getD i []).getD j [], getD_mem (by rw [hN _ (getD_mem hi)]; exact hj), by simpa using h⟩
    rw [if_pos he]
    refine loop_bad (l := fun i k => wayfinderref15_Check.l2 k (b.length : Int) (N : Int) (i : Int) b) (bad := fun i => ∃ j, j < N ∧ checkWide ((b.getD i []).getD j []) ≠ 0) (fun i hi hb h => ?_) hex (fun i hi hb => ?_)
    · exact evShift (step i hi) (row i hi 11 (fun j hj h2 => hb ⟨j, hj, h2⟩) h)
    · exact evShift (step i hi) (rowb i hi hb)
  · have he : ¬ b.any (fun l => l.any (fun v => checkWide v != 0)) = true := by
      rw [List.any_eq_true]
      rintro ⟨l, hlm, h⟩
      rw [List.any_eq_true] at h
      obtain ⟨v, hv, h⟩ := h
      obtain ⟨i, hi, rfl⟩ := List.getElem_of_mem hlm
      obtain ⟨j, hj, rfl⟩ := List.getElem_of_mem hv
      refine hex ⟨i, hi, j, by rw [← hN _ hlm]; exact hj, ?_⟩
      rw [List.getD_eq_getElem?_getD (l := b), List.getElem?_eq_getElem hi]
      show checkWide ((b[i]).getD j []) ≠ 0
      rw [List.getD_eq_getElem?_getD, List.getElem?_eq_getElem hj]
      simpa using h
    rw [if_neg he]
    refine loop_ok (l := fun i k => wayfinderref15_Check.l2 k (b.length : Int) (N : Int) (i : Int) b) (bad := fun i => ∃ j, j < N ∧ checkWide ((b.getD i []).getD j []) ≠ 0) (n := b.length) (fun i hi hb h => ?_) (fun i hi h => hex ⟨i, hi, h⟩) ?_
    · exact evShift (step i hi) (row i hi 0 (fun j hj h2 => hb ⟨j, hj, h2⟩) h)
    · exact evShift (fun k => by simp only [wayfinderref15_Check.l2]; rw [if_neg (by omega)]) (Ev.some_ _)
/-- The first half: all parts have the first one's shape. -/
theorem check_shape {b : List (List (List Int))} (hl : LightB b) (N M : Nat) (hN : N ≤ 1000000) {r : Int} :
    (b.any (odd N M) = true → Ev (fun k => wayfinderref15_Check.l0 k (b.length : Int) (N : Int) (M : Int) 0 b) 2) ∧
    (¬ b.any (odd N M) = true → Ev (fun k => wayfinderref15_Check.l2 k (b.length : Int) (N : Int) 0 b) r → Ev (fun k => wayfinderref15_Check.l0 k (b.length : Int) (N : Int) (M : Int) 0 b) r) := by
  have hl0 := hl.l0
  have row : ∀ i, i < b.length → ∀ r, (b.getD i []).length = N → (∀ j, j < N → ¬ ((b.getD i []).getD j []).length ≠ M) → Ev (fun k => wayfinderref15_Check.l0 k (b.length : Int) (N : Int) (M : Int) ((i + 1 : Nat) : Int) b) r → Ev (fun k => wayfinderref15_Check.l1 k (b.length : Int) (N : Int) (M : Int) (i : Int) ((0 : Nat) : Int) b) r := fun i hi r hn hall he => by
    refine loop_ok (l := fun j k => wayfinderref15_Check.l1 k (b.length : Int) (N : Int) (M : Int) (i : Int) (j : Int) b) (bad := fun j => ((b.getD i []).getD j []).length ≠ M) (n := N) (fun j hj hb h => ?_) hall ?_
    · exact evShift (fun k => by simp only [wayfinderref15_Check.l1]; rw [if_pos (by omega), if_pos (by omega), if_pos (by omega), if_pos (by omega), rd3, if_pos (by omega), rd2, if_pos (by omega), wrap_succ (by omega)]) h
    · exact evShift (fun k => by simp only [wayfinderref15_Check.l1]; rw [if_neg (by omega), wrap_succ (by omega)]) he
  have rowb : ∀ i, i < b.length → (b.getD i []).length = N → (∃ j, j < N ∧ ((b.getD i []).getD j []).length ≠ M) → Ev (fun k => wayfinderref15_Check.l1 k (b.length : Int) (N : Int) (M : Int) (i : Int) ((0 : Nat) : Int) b) 2 := fun i hi hn hex => by
    refine loop_bad (l := fun j k => wayfinderref15_Check.l1 k (b.length : Int) (N : Int) (M : Int) (i : Int) (j : Int) b) (bad := fun j => ((b.getD i []).getD j []).length ≠ M) (n := N) (fun j hj hb h => ?_) hex (fun j hj hb => ?_)
    · exact evShift (fun k => by simp only [wayfinderref15_Check.l1]; rw [if_pos (by omega), if_pos (by omega), if_pos (by omega), if_pos (by omega), rd3, if_pos (by omega), rd2, if_pos (by omega), wrap_succ (by omega)]) h
    · exact evShift (fun k => by simp only [wayfinderref15_Check.l1]; rw [if_pos (by omega), if_pos (by omega), if_pos (by omega), if_pos (by omega), rd3, if_pos (by omega), rd2, if_neg (by omega)]) (Ev.some_ _)
  have step : ∀ i, i < b.length → (b.getD i []).length = N → ∀ k, wayfinderref15_Check.l0 (k + 1) (b.length : Int) (N : Int) (M : Int) (i : Int) b = wayfinderref15_Check.l1 k (b.length : Int) (N : Int) (M : Int) (i : Int) ((0 : Nat) : Int) b := fun i hi hn k => by
    simp only [wayfinderref15_Check.l0]
    rw [if_pos (by omega), if_pos (by omega), if_pos (by omega), rd3, if_pos (by omega)]
    rfl
  have badI : ∀ i, i < b.length → (odd N M (b.getD i []) = true ↔ (b.getD i []).length ≠ N ∨ ∃ j, j < (b.getD i []).length ∧ ((b.getD i []).getD j []).length ≠ M) := fun i hi => by
    unfold odd
    rw [Bool.or_eq_true, bne_iff_ne, List.any_eq_true]
    constructor
    · rintro (h | ⟨v, hv, h⟩)
      · exact .inl (by omega)
      · obtain ⟨j, hj, rfl⟩ := List.getElem_of_mem hv
        refine .inr ⟨j, hj, ?_⟩
        rw [List.getD_eq_getElem?_getD, List.getElem?_eq_getElem hj]
        have := bne_iff_ne.1 h
        show (b.getD i [])[j].length ≠ M
        omega
    · rintro (h | ⟨j, hj, h⟩)
      · exact .inl (by omega)
      · exact .inr ⟨(b.getD i []).getD j [], getD_mem hj, bne_iff_ne.2 (fun e => h (by omega))⟩
  have ok : ∀ r i, i < b.length → ¬ odd N M (b.getD i []) = true → Ev (fun k => wayfinderref15_Check.l0 k (b.length : Int) (N : Int) (M : Int) ((i + 1 : Nat) : Int) b) r → Ev (fun k => wayfinderref15_Check.l0 k (b.length : Int) (N : Int) (M : Int) (i : Int) b) r := fun r i hi hb h => by
    rw [badI i hi] at hb
    have hn : (b.getD i []).length = N := Classical.byContradiction fun e => hb (.inl e)
    exact evShift (step i hi hn) (row i hi r hn (fun j hj e => hb (.inr ⟨j, by omega, e⟩)) h)
  have hany : b.any (odd N M) = true ↔ ∃ i, i < b.length ∧ odd N M (b.getD i []) = true := by
    rw [List.any_eq_true]
    constructor
    · rintro ⟨l, hlm, h⟩
      obtain ⟨i, hi, rfl⟩ := List.getElem_of_mem hlm
      exact ⟨i, hi, by rw [List.getD_eq_getElem?_getD, List.getElem?_eq_getElem hi]; exact h⟩
    · rintro ⟨i, hi, h⟩
      exact ⟨_, getD_mem hi, h⟩
  constructor
  · intro h
    refine loop_bad (l := fun i k => wayfinderref15_Check.l0 k (b.length : Int) (N : Int) (M : Int) (i : Int) b) (bad := fun i => odd N M (b.getD i []) = true) (n := b.length) (fun i hi hb h => ok 2 i hi hb h) (hany.1 h) (fun i hi hb => ?_)
    rw [badI i hi] at hb
    by_cases hn : (b.getD i []).length = N
    · refine evShift (step i hi hn) (rowb i hi hn ?_)
      rcases hb with h | ⟨j, hj, h⟩
      · exact absurd hn h
      · exact ⟨j, by omega, h⟩
    · exact evShift (fun k => by simp only [wayfinderref15_Check.l0]; rw [if_pos (by omega), if_pos (by omega), if_pos (by omega), rd3, if_neg (by omega)]) (Ev.some_ _)
  · intro h he
    refine loop_ok (l := fun i k => wayfinderref15_Check.l0 k (b.length : Int) (N : Int) (M : Int) (i : Int) b) (bad := fun i => odd N M (b.getD i []) = true) (n := b.length) (fun i hi hb h => ok r i hi hb h) (fun i hi hb => h (hany.2 ⟨i, hi, hb⟩)) ?_
    exact evShift (fun k => by simp only [wayfinderref15_Check.l0]; rw [if_neg (by omega)]) he
theorem rCheck_is {b : List (List (List Int))} (hl : LightB b) : Ev (fun k => wayfinderref15_Check.f k b) (bookE b) := by
  have hl0 := hl.l0
  have hn0 := hl.n 0
  have hm0 := hl.m 0 0
  have e0 : rd_L3 b 0 = b.getD 0 [] := rfl
  have e1 : rd_L2 (b.getD 0 []) 0 = (b.getD 0 []).getD 0 [] := rfl
  have two : ∀ k (x3 : Int), wayfinderref15_Check.j0 (k + 1) x3 true b = some 2 := fun k x3 => by simp only [wayfinderref15_Check.j0]; rw [if_pos trivial]
  have two1 : ∀ k (x3 x4 x5 : Int), wayfinderref15_Check.j1 (k + 1) x3 x4 x5 true b = some 2 := fun k x3 x4 x5 => by simp only [wayfinderref15_Check.j1]; rw [if_pos trivial]
  have sh : shapedL b = false ↔ ((b.length < 1 ∨ b.length > 1024 ∨ (b.getD 0 []).length < 1 ∨ (b.getD 0 []).length > 256 ∨ ((b.getD 0 []).getD 0 []).length < 1 ∨ ((b.getD 0 []).getD 0 []).length > 1024 ∨ ((b.getD 0 []).getD 0 []).length * b.length > 1024) ∨ b.any (odd (b.getD 0 []).length ((b.getD 0 []).getD 0 []).length) = true) := by
    unfold shapedL
    rw [Bool.not_eq_false', Bool.or_eq_true]
    simp only [Bool.or_eq_true, decide_eq_true_eq]
    constructor
    · rintro (h | h)
      · exact .inl (by omega)
      · exact .inr h
    · rintro (h | h)
      · exact .inl (by omega)
      · exact .inr h
  have pr : ((b.length : Int) * (((b.getD 0 []).getD 0 []).length : Int)) = ((((b.getD 0 []).getD 0 []).length * b.length : Nat) : Int) := by rw [Int.natCast_mul, Int.mul_comm]
  unfold wayfinderref15_Check.f
  by_cases h1 : b.length < 1
  · have : bookE b = 2 := by unfold bookE; rw [if_pos (sh.2 (.inl (.inl h1)))]
    rw [this]
    exact Ev.pos (by omega) (evShift (fun k => two k _) (Ev.some_ _))
  refine Ev.neg (by omega) ?_
  by_cases h2 : b.length > 1024
  · have : bookE b = 2 := by unfold bookE; rw [if_pos (sh.2 (.inl (.inr (.inl h2))))]
    rw [this]
    exact Ev.pos (by omega) (evShift (fun k => two k _) (Ev.some_ _))
  refine Ev.neg (by omega) (Ev.pos (by omega) ?_)
  rw [e0]
  by_cases h3 : (b.getD 0 []).length < 1
  · have : bookE b = 2 := by unfold bookE; rw [if_pos (sh.2 (.inl (.inr (.inr (.inl h3)))))]
    rw [this]
    exact Ev.pos (by omega) (evShift (fun k => two k _) (Ev.some_ _))
  refine Ev.neg (by omega) ?_
  by_cases h4 : (b.getD 0 []).length > 256
  · have : bookE b = 2 := by unfold bookE; rw [if_pos (sh.2 (.inl (.inr (.inr (.inr (.inl h4))))))]
    rw [this, decide_eq_true (show ((b.getD 0 []).length : Int) > 256 by omega)]
    exact evShift (fun k => two k _) (Ev.some_ _)
  rw [decide_eq_false (show ¬ ((b.getD 0 []).length : Int) > 256 by omega)]
  have hp := Nat.mul_le_mul (show ((b.getD 0 []).getD 0 []).length ≤ 1000000 from hm0) (show b.length ≤ 1024 by omega)
  by_cases h5 : ((b.getD 0 []).getD 0 []).length < 1
  · have : bookE b = 2 := by unfold bookE; rw [if_pos (sh.2 (.inl (.inr (.inr (.inr (.inr (.inl h5)))))))]
    rw [this]
    exact evShift (fun k => by simp only [wayfinderref15_Check.j0]; rw [if_neg (by decide), if_pos (by omega), e0, if_pos (by omega), e1, if_pos (by omega)]) (evShift (fun k => two1 k _ _ _) (Ev.some_ _))
  by_cases h6 : ((b.getD 0 []).getD 0 []).length * b.length > 1024
  · have : bookE b = 2 := by unfold bookE; rw [if_pos (sh.2 (.inl (.inr (.inr (.inr (.inr (.inr (.inr h6))))))))]
    rw [this]
    exact evShift (fun k => by simp only [wayfinderref15_Check.j0]; rw [if_neg (by decide), if_pos (by omega), e0, if_pos (by omega), e1, if_neg (by omega), pr, wrap_nat (by omega), decide_eq_true (by omega)]) (evShift (fun k => two1 k _ _ _) (Ev.some_ _))
  refine evShift (fun k => by simp only [wayfinderref15_Check.j0]; rw [if_neg (by decide), if_pos (by omega), e0, if_pos (by omega), e1, if_neg (by omega), pr, wrap_nat (by omega), decide_eq_false (by omega)]) ?_
  refine evShift (f := _) (fun k => by simp only [wayfinderref15_Check.j1]; rw [if_neg (by decide)]) ?_
  have hle := Nat.le_mul_of_pos_right ((b.getD 0 []).getD 0 []).length (show 0 < b.length by omega)
  obtain ⟨c1, c2⟩ := check_shape hl (b.getD 0 []).length ((b.getD 0 []).getD 0 []).length (by omega) (r := bookE b)
  by_cases h7 : b.any (odd (b.getD 0 []).length ((b.getD 0 []).getD 0 []).length) = true
  · have : bookE b = 2 := by unfold bookE; rw [if_pos (sh.2 (.inr h7))]
    rw [this]
    exact c1 h7
  · refine c2 h7 ?_
    have hs : ¬ shapedL b = false := by
      rw [sh]
      rintro (h | h)
      · omega
      · exact h7 h
    have hb : bookE b = if b.any (fun l => l.any (fun v => checkWide v != 0)) then 11 else 0 := by unfold bookE; rw [if_neg hs]
    rw [hb]
    refine check_wide hl _ (fun l hlm => ?_)
    have : ¬ odd (b.getD 0 []).length ((b.getD 0 []).getD 0 []).length l = true := fun h => h7 (List.any_eq_true.2 ⟨l, hlm, h⟩)
    unfold odd at this
    rw [Bool.or_eq_true, bne_iff_ne] at this
    exact Classical.byContradiction fun e => this (.inl (by omega))
theorem light_LightB {b : List (List (List Int))} (h0 : b.length ≤ 30) (h1 : ∀ l ∈ b, l.length ≤ 260) (h2 : ∀ l ∈ b, ∀ v ∈ l, v.length ≤ 60) : LightB b :=
  ⟨by omega, fun l hl => by have := h1 l hl; omega, fun l hl v hv => by have := h2 l hl v hv; omega⟩
theorem rSame3_is (a c : List Int) (ha : a.length ≤ 1000000) : Ev (fun k => wayfinderref03_Same.f k a c) (decide (a = c)) := by
  unfold wayfinderref03_Same.f
  by_cases hl : (a.length : Int) = (c.length : Int)
  · refine Ev.pos hl ?_
    have hln : a.length = c.length := by omega
    by_cases hex : ∃ i, i < a.length ∧ a.getD i 0 ≠ c.getD i 0
    · rw [decide_eq_false (fun e => by obtain ⟨i, _, h⟩ := hex; exact h (by rw [e]))]
      refine loop_bad (l := fun i k => wayfinderref03_Same.l0 k a c (i : Int)) (bad := fun i => a.getD i 0 ≠ c.getD i 0) (n := a.length) (fun i hi hb h => ?_) hex (fun i hi hb => ?_)
      · exact evShift (fun k => by simp only [wayfinderref03_Same.l0]; rw [if_pos (by omega), if_pos (by omega), if_pos (by omega), rd_nat, rd_nat, if_pos (Classical.byContradiction hb), wrap_succ (by omega)]) h
      · exact evShift (fun k => by simp only [wayfinderref03_Same.l0]; rw [if_pos (by omega), if_pos (by omega), if_pos (by omega), rd_nat, rd_nat, if_neg hb]) (Ev.some_ _)
    · have he : a = c := by
        apply List.ext_getElem hln
        intro i h1 h2
        have := Classical.byContradiction fun h => hex ⟨i, h1, h⟩
        rw [List.getD_eq_getElem?_getD, List.getD_eq_getElem?_getD, List.getElem?_eq_getElem h1, List.getElem?_eq_getElem h2] at this
        exact this
      rw [decide_eq_true he]
      refine loop_ok (l := fun i k => wayfinderref03_Same.l0 k a c (i : Int)) (bad := fun i => a.getD i 0 ≠ c.getD i 0) (n := a.length) (fun i hi hb h => ?_) (fun i hi h => hex ⟨i, hi, h⟩) ?_
      · exact evShift (fun k => by simp only [wayfinderref03_Same.l0]; rw [if_pos (by omega), if_pos (by omega), if_pos (by omega), rd_nat, rd_nat, if_pos (Classical.byContradiction hb), wrap_succ (by omega)]) h
      · exact evShift (fun k => by simp only [wayfinderref03_Same.l0]; rw [if_neg (by omega)]) (Ev.some_ _)
  · rw [decide_eq_false (fun e => hl (by rw [e]))]
    exact Ev.neg hl (Ev.some_ _)
theorem ext_get {α : Type} (z : α) {a c : List α} (hl : a.length = c.length) (h : ∀ i, i < a.length → a.getD i z = c.getD i z) : a = c := by
  apply List.ext_getElem hl
  intro i h1 h2
  have := h i h1
  rw [List.getD_eq_getElem?_getD, List.getD_eq_getElem?_getD, List.getElem?_eq_getElem h1, List.getElem?_eq_getElem h2] at this
  exact this
theorem rSame_is {a c : List (List (List Int))} (ha : LightB a) : Ev (fun k => wayfinderref15_Same.f k a c) (decide (a = c)) := by
  have h0 := ha.l0
  unfold wayfinderref15_Same.f
  by_cases hl : (a.length : Int) = (c.length : Int)
  · refine Ev.pos hl ?_
    have hln : a.length = c.length := by omega
    have row : ∀ i, i < a.length → ∀ r, (a.getD i []).length = (c.getD i []).length → (∀ j, j < (a.getD i []).length → ¬ (a.getD i []).getD j [] ≠ (c.getD i []).getD j []) → Ev (fun k => wayfinderref15_Same.l0 k ((i + 1 : Nat) : Int) a c) r → Ev (fun k => wayfinderref15_Same.l1 k (i : Int) ((0 : Nat) : Int) a c) r := fun i hi r hn hall he => by
      have hnl := ha.n i
      refine loop_ok (l := fun j k => wayfinderref15_Same.l1 k (i : Int) (j : Int) a c) (bad := fun j => (a.getD i []).getD j [] ≠ (c.getD i []).getD j []) (n := (a.getD i []).length) (fun j hj hb h => ?_) hall ?_
      · refine evShift (fun k => by simp only [wayfinderref15_Same.l1]; rw [if_pos (by omega), if_pos (by omega), rd3, if_pos (by omega), if_pos (by omega), if_pos (by omega), rd3, if_pos (by omega), rd2, rd2, wrap_succ (by omega)]) ?_
        exact Ev.bind (rSame3_is _ _ (ha.m i j)) (Ev.pos (decide_eq_true (Classical.byContradiction hb)) h)
      · exact evShift (fun k => by simp only [wayfinderref15_Same.l1]; rw [if_pos (by omega), if_pos (by omega), rd3, if_neg (by omega), wrap_succ (by omega)]) he
    have rowb : ∀ i, i < a.length → (a.getD i []).length = (c.getD i []).length → (∃ j, j < (a.getD i []).length ∧ (a.getD i []).getD j [] ≠ (c.getD i []).getD j []) → Ev (fun k => wayfinderref15_Same.l1 k (i : Int) ((0 : Nat) : Int) a c) false := fun i hi hn hex => by
      have hnl := ha.n i
      refine loop_bad (l := fun j k => wayfinderref15_Same.l1 k (i : Int) (j : Int) a c) (bad := fun j => (a.getD i []).getD j [] ≠ (c.getD i []).getD j []) (n := (a.getD i []).length) (fun j hj hb h => ?_) hex (fun j hj hb => ?_)
      · refine evShift (fun k => by simp only [wayfinderref15_Same.l1]; rw [if_pos (by omega), if_pos (by omega), rd3, if_pos (by omega), if_pos (by omega), if_pos (by omega), rd3, if_pos (by omega), rd2, rd2, wrap_succ (by omega)]) ?_
        exact Ev.bind (rSame3_is _ _ (ha.m i j)) (Ev.pos (decide_eq_true (Classical.byContradiction hb)) h)
      · refine evShift (fun k => by simp only [wayfinderref15_Same.l1]; rw [if_pos (by omega), if_pos (by omega), rd3, if_pos (by omega), if_pos (by omega), if_pos (by omega), rd3, if_pos (by omega), rd2, rd2, wrap_succ (by omega)]) ?_
        exact Ev.bind (rSame3_is _ _ (ha.m i j)) (Ev.neg (by rw [decide_eq_false hb]; decide) (Ev.some_ _))
    have step : ∀ i, i < a.length → (a.getD i []).length = (c.getD i []).length → ∀ k, wayfinderref15_Same.l0 (k + 1) (i : Int) a c = wayfinderref15_Same.l1 k (i : Int) ((0 : Nat) : Int) a c := fun i hi hn k => by
      simp only [wayfinderref15_Same.l0]
      rw [if_pos (by omega), if_pos (by omega), if_pos (by omega), rd3, rd3, if_pos (by omega)]
      rfl
    have ok : ∀ r i, i < a.length → ¬ a.getD i [] ≠ c.getD i [] → Ev (fun k => wayfinderref15_Same.l0 k ((i + 1 : Nat) : Int) a c) r → Ev (fun k => wayfinderref15_Same.l0 k (i : Int) a c) r := fun r i hi hb h => by
      have he : a.getD i [] = c.getD i [] := Classical.byContradiction hb
      have hn : (a.getD i []).length = (c.getD i []).length := by rw [he]
      exact evShift (step i hi hn) (row i hi r hn (fun j _ h2 => h2 (by rw [he])) h)
    by_cases hex : ∃ i, i < a.length ∧ a.getD i [] ≠ c.getD i []
    · rw [decide_eq_false (fun e => by obtain ⟨i, _, h⟩ := hex; exact h (by rw [e]))]
      refine loop_bad (l := fun i k => wayfinderref15_Same.l0 k (i : Int) a c) (bad := fun i => a.getD i [] ≠ c.getD i []) (n := a.length) (fun i hi hb h => ok _ i hi hb h) hex (fun i hi hb => ?_)
      by_cases hn : (a.getD i []).length = (c.getD i []).length
      · refine evShift (step i hi hn) (rowb i hi hn (Classical.byContradiction fun h => hb (ext_get [] hn fun j hj => Classical.byContradiction fun h2 => h ⟨j, hj, h2⟩)))
      · exact evShift (fun k => by simp only [wayfinderref15_Same.l0]; rw [if_pos (by omega), if_pos (by omega), if_pos (by omega), rd3, rd3, if_neg (by omega)]) (Ev.some_ _)
    · rw [decide_eq_true (ext_get [] hln fun i hi => Classical.byContradiction fun h => hex ⟨i, hi, h⟩)]
      refine loop_ok (l := fun i k => wayfinderref15_Same.l0 k (i : Int) a c) (bad := fun i => a.getD i [] ≠ c.getD i []) (n := a.length) (fun i hi hb h => ok _ i hi hb h) (fun i hi h => hex ⟨i, hi, h⟩) ?_
      exact evShift (fun k => by simp only [wayfinderref15_Same.l0]; rw [if_neg (by omega)]) (Ev.some_ _)
  · rw [decide_eq_false (fun e => hl (by rw [e]))]
    exact Ev.neg hl (Ev.some_ _)
end Go.Proofs.Yteickelddnhdiaa.Bk

namespace Go.Proofs.Yteickelddnhdiaa.Bk
open Go.RowKit Go.Proofs.YteickelddnhdiaaW.PrintWords Go.Proofs.YteickelddnhdiaaW.PrintLast Go.Proofs.Yteickelddnhdiaa.G
set_option linter.unusedVariables false
/-- A book's dim, or zero. -/
def dimN (b : List (List (List Int))) : Nat := if bookE b = 0 then ((b.getD 0 []).getD 0 []).length * b.length else 0
theorem dimN_ok {b : List (List (List Int))} {n m : Nat} (hb : BookOK b n m) (h0 : bookE b = 0) : dimN b = m * b.length := by
  have hp := hb.p1
  have hn := hb.n1
  unfold dimN
  rw [if_pos h0, (hb.word (i := 0) (c := 0) (by omega) (by omega)).1]
theorem dim_both {b : List (List (List Int))} (hl : LightB b) : book_Dim.f b = some (dimN b : Int) ∧ Ev (fun k => wayfinderref15_Dim.f k b) (dimN b : Int) := by
  by_cases h0 : bookE b = 0
  · obtain ⟨n, m, hb⟩ := bookE_ok h0
    have hp := hb.p1
    have hn := hb.n1
    have hmo := hb.most
    have hn0 := hb.parts _ (getD_mem (z := []) (show 0 < b.length by omega))
    have hm0 := (hb.word (i := 0) (c := 0) (by omega) (by omega)).1
    refine ⟨by rw [dimN_ok hb h0]; exact dim_is hb h0, ?_⟩
    unfold wayfinderref15_Dim.f
    refine Ev.bind (rCheck_is hl) (Ev.pos h0 (Ev.pos (by omega) (Ev.pos (by rw [show rd_L3 b 0 = b.getD 0 [] from rfl, hn0]; omega) ?_)))
    have e : (b.length : Int) * ((rd_L2 (rd_L3 b 0) 0).length : Int) = ((m * b.length : Nat) : Int) := by
      rw [show rd_L2 (rd_L3 b 0) 0 = (b.getD 0 []).getD 0 [] from rfl, hm0, Int.natCast_mul, Int.mul_comm]
    rw [e, wrap_nat (by omega), dimN_ok hb h0]
    exact Ev.some_ _
  · have hd : dimN b = 0 := by unfold dimN; rw [if_neg h0]
    rw [hd]
    refine ⟨?_, ?_⟩
    · unfold book_Dim.f book_Check.f
      simp only [Option.bind]
      rw [if_neg h0]
      rfl
    · unfold wayfinderref15_Dim.f
      exact Ev.bind (rCheck_is hl) (Ev.neg h0 (Ev.some_ _))
section
variable {b : List (List (List Int))} {n m : Nat}
theorem rCut_is (hb : BookOK b n m) {v : List Int} (hl : v.length = m * b.length) : Ev (fun k => wayfinderref14_Cut.f k v (b.length : Int)) ((List.range b.length).map (pieceL v m), 0) := by
  have p1 := hb.p1
  have m1 := hb.m1
  have mo := hb.most
  have hmP : b.length ≤ m * b.length := Nat.le_mul_of_pos_left b.length m1
  have hmm : m ≤ m * b.length := Nat.le_mul_of_pos_right m p1
  have hw : wayfinderref14_Width.f (v.length : Int) (b.length : Int) = some (m : Int) := by
    unfold wayfinderref14_Width.f wayfinderref14_Check.f
    have ht : Int.tmod (v.length : Int) (b.length : Int) = 0 := by
      have : Int.tmod (v.length : Int) (b.length : Int) = ((v.length % b.length : Nat) : Int) := rfl
      rw [this, hl, Nat.mul_mod_left]
      rfl
    have hq : Int.tdiv (v.length : Int) (b.length : Int) = (m : Int) := by
      have : Int.tdiv (v.length : Int) (b.length : Int) = ((v.length / b.length : Nat) : Int) := rfl
      rw [this, hl, Nat.mul_div_cancel _ (by omega)]
    rw [if_neg (by omega), if_neg (by omega), if_neg (by omega), if_neg (by omega), if_pos ht]
    simp only [Option.bind]
    rw [if_pos trivial, if_neg (by omega), hq, wrap_nat (by omega)]
  unfold wayfinderref14_Cut.f
  refine Ev.bindc hw (Ev.neg (by omega) ?_)
  refine Ev.for_ (l := fun i k => wayfinderref14_Cut.l0 k v (b.length : Int) (m : Int) ((List.range i).map (pieceL v m)) (i : Int)) (g := fun _ => some ((List.range b.length).map (pieceL v m), 0)) (Nat.zero_le b.length) (fun i _ hi k => ?_) (fun k => ?_) (Ev.some_ _)
  · have h1 : (i + 1) * m ≤ m * b.length := by rw [Nat.mul_comm m b.length]; exact Nat.mul_le_mul_right m hi
    have h2 : (i + 1) * m = i * m + m := by rw [Nat.add_mul, Nat.one_mul]
    have HE1 := Aside0.mk (show wrap64 ((i : Int) * (m : Int)) = ((i * m : Nat) : Int) by rw [← Int.natCast_mul, wrap_nat (by omega)])
    have HE2 := Aside0.mk (show wrap64 (((i * m : Nat) : Int) + (m : Int)) = ((i * m + m : Nat) : Int) by rw [← Int.natCast_add, wrap_nat (by omega)])
    have e3 : (v.take ((i * m + m : Nat) : Int).toNat).drop ((i * m : Nat) : Int).toNat = pieceL v m i := by
      rw [Int.toNat_natCast, Int.toNat_natCast]
      unfold pieceL
      rw [List.drop_take]
      congr 1
      omega
    have hpl : (pieceL v m i).length = m := by simp [pieceL]; omega
    show wayfinderref14_Cut.l0 (k + 1) _ _ _ _ _ = _
    rw [wayfinderref14_Cut.l0, if_pos (by omega), Option.bind_some, HE1.out, HE2.out, e3, if_pos (by omega), if_pos (by omega), if_pos (by omega), List.nil_append, if_pos (show ([] : List Int).length + (pieceL v m i).length < 35184372088832 by rw [hpl]; simp only [List.length_nil]; omega), if_pos (show ((List.range i).map (pieceL v m)).length < 5864062014805 by rw [List.length_map, List.length_range]; omega), wrap_succ (by omega), List.range_succ, List.map_append, List.map_cons, List.map_nil]
  · simp only [wayfinderref14_Cut.l0]
    rw [if_neg (by omega)]
theorem near_nonneg {D : Nat → Int} (hD : ∀ j, 0 ≤ D j) : ∀ k, 1 ≤ k → 0 ≤ (nearTo D k).2 ∧ 0 ≤ (nearTo D k).1 ∧ (nearTo D k).1 < k
  | 0, h => absurd h (by decide)
  | 1, _ => by have := hD 0; simp [nearTo, nearStep, List.range_succ]; omega
  | k + 2, _ => by
    obtain ⟨h1, h2, h3⟩ := near_nonneg hD (k + 1) (by omega)
    have := hD (k + 1)
    rw [nearTo_succ]
    unfold nearStep
    split <;> (simp; omega)
theorem near_step {D : Nat → Int} (hD : ∀ j, 0 ≤ D j) (k : Nat) (hk : 1 ≤ k) : nearTo D (k + 1) = if D k < (nearTo D k).2 then ((k : Int), D k) else nearTo D k := by
  obtain ⟨h1, _, _⟩ := near_nonneg hD k hk
  rw [nearTo_succ]
  unfold nearStep
  by_cases h : D k < (nearTo D k).2
  · rw [if_pos h]
    simp [h]
  · rw [if_neg h]
    have : ¬ (nearTo D k).2 < 0 := by omega
    simp [h, this]
theorem distV_nonneg (a c : List Int) : 0 ≤ distV a c := by
  unfold distV
  split
  · exact distTo_nonneg a c _
  · exact Int.le_refl _
theorem rEncode_row (hb : BookOK b n m) {v : List Int} (hv : checkWide v = 0) (hl : v.length = m * b.length) {i : Nat} (hi : i < b.length) (acc : List Int) (ha : acc.length = i) {r : List Int × Int}
    (h : Ev (fun k => wayfinderref15_Encode.l0 k ((List.range b.length).map (pieceL v m)) (acc ++ [codeOf b m v i]) ((i + 1 : Nat) : Int) b) r) :
    Ev (fun k => wayfinderref15_Encode.l1 k ((List.range b.length).map (pieceL v m)) acc (i : Int) 0 0 0 b) r := by
  have n1 := hb.n1
  have n2 := hb.n2
  have mo := hb.most
  have hmP : b.length ≤ m * b.length := Nat.le_mul_of_pos_left b.length hb.m1
  have hpl : ((List.range b.length).map (pieceL v m)).length = b.length := by simp
  have hp := hb.parts _ (getD_mem (z := []) hi)
  have e2 : rd_L2 ((List.range b.length).map (pieceL v m)) (i : Int) = pieceL v m i := by simp [rd_L2, hi]
  obtain ⟨q1, q2⟩ := piece_ok hb hv hl hi
  have hm1 : m ≤ 1024 := by have := Nat.le_mul_of_pos_right m hb.p1; omega
  obtain ⟨D, hD⟩ : ∃ D, distsOf (b.getD i []) (pieceL v m i) = D := ⟨_, rfl⟩
  have hDn : ∀ j, 0 ≤ D j := fun j => by rw [← hD]; exact distV_nonneg _ _
  have hdist : ∀ j, j < n → Ev (fun k => wayfinderref03_Dist.f k ((b.getD i []).getD j []) (pieceL v m i)) (D j, pairE ((b.getD i []).getD j []) (pieceL v m i)) := fun j hj => by
    have hw := hb.word hi hj
    rw [← hD]
    exact rDist_is _ _ (by omega) (by omega)
  obtain ⟨parts, hparts⟩ : ∃ parts, (List.range b.length).map (pieceL v m) = parts := ⟨_, rfl⟩
  rw [hparts] at hpl e2 h ⊢
  have head : ∀ (x : Nat) (x11 x12 : Int) k, x < n → wayfinderref15_Encode.l1 (k + 1) parts acc (i : Int) x11 x12 (x : Int) b = (wayfinderref03_Dist.f k ((b.getD i []).getD x []) (pieceL v m i)).bind fun bt266 => (if (x : Int) = 0 then (wayfinderref15_Encode.l1 k parts acc (i : Int) (x : Int) bt266.1 ((x + 1 : Nat) : Int) b) else (if bt266.1 < x12 then (wayfinderref15_Encode.l1 k parts acc (i : Int) (x : Int) bt266.1 ((x + 1 : Nat) : Int) b) else (wayfinderref15_Encode.l1 k parts acc (i : Int) x11 x12 ((x + 1 : Nat) : Int) b))) := fun x x11 x12 k hx => by
    simp only [wayfinderref15_Encode.l1]
    rw [if_pos (by omega), if_pos (by omega), rd3, if_pos (by omega), if_pos (by omega), if_pos (by omega), e2, rd2, wrap_succ (by omega)]
  have tail : Ev (fun k => wayfinderref15_Encode.l1 k parts acc (i : Int) (nearTo D n).1 (nearTo D n).2 (n : Int) b) r := by
    obtain ⟨c1, c2, c3⟩ := near_nonneg hDn n n1
    have hc : codeOf b m v i = (nearTo D n).1 := by unfold codeOf; rw [hD, hp]
    have hmod : (nearTo D n).1 % 256 = codeOf b m v i := by rw [hc]; omega
    refine evShift (fun k => by simp only [wayfinderref15_Encode.l1]; rw [if_pos (by omega), if_pos (by omega), rd3, if_neg (by omega), if_pos (by omega), hmod, wrap_succ (by omega)]) h
  have rest : Ev (fun k => wayfinderref15_Encode.l1 k parts acc (i : Int) (nearTo D 1).1 (nearTo D 1).2 ((1 : Nat) : Int) b) r :=
    Ev.forE (l := fun j k => wayfinderref15_Encode.l1 k parts acc (i : Int) (nearTo D j).1 (nearTo D j).2 (j : Int) b) (a := 1) (n := n) n1 (fun j hj1 hj h => by
      refine evShift (fun k => head j _ _ k hj) (Ev.bind (hdist j hj) (Ev.neg (by omega) ?_))
      rw [near_step hDn j hj1] at h
      by_cases hlt : D j < (nearTo D j).2
      · rw [if_pos hlt] at h
        exact Ev.pos hlt h
      · rw [if_neg hlt] at h
        exact Ev.neg hlt h) tail
  have h1 : nearTo D 1 = (0, D 0) := by simp [nearTo, nearStep, List.range_succ]
  rw [h1] at rest
  exact evShift (fun k => head 0 0 0 k (by omega)) (Ev.bind (hdist 0 (by omega)) (Ev.pos rfl rest))
theorem rEncode_is (hl0 : LightB b) (hb : BookOK b n m) (h0 : bookE b = 0) {v : List Int} (hv : checkWide v = 0) (hl : v.length = m * b.length) : Ev (fun k => wayfinderref15_Encode.f k b v) ((List.range b.length).map (codeOf b m v), 0) := by
  have mo := hb.most
  have hmP : b.length ≤ m * b.length := Nat.le_mul_of_pos_left b.length hb.m1
  have hpl : ((List.range b.length).map (pieceL v m)).length = b.length := by simp
  unfold wayfinderref15_Encode.f
  refine Ev.bind (rCheck_is hl0) (Ev.pos h0 (Ev.bind (rCheckWide_is v (by omega)) ?_))
  rw [hv]
  refine evShift (fun k => by simp only [wayfinderref15_Encode.j0]; rw [if_pos trivial]) (Ev.bind (dim_both hl0).2 ?_)
  have hne : ((v.length : Int) != (dimN b : Int)) = false := by rw [dimN_ok hb h0, hl]; simp
  rw [hne]
  refine evShift (fun k => by simp only [wayfinderref15_Encode.j1]; rw [if_neg (by decide)]) ?_
  refine evShift (fun k => by simp only [wayfinderref15_Encode.j2]; rw [if_pos trivial]) (Ev.bind (rCut_is hb hl) ?_)
  refine Ev.forE (l := fun i k => wayfinderref15_Encode.l0 k ((List.range b.length).map (pieceL v m)) ((List.range i).map (codeOf b m v)) (i : Int) b) (Nat.zero_le b.length) (fun i _ hi h => ?_) ?_
  · refine evShift (fun k => by simp only [wayfinderref15_Encode.l0]; rw [if_pos (by omega)]) ?_
    refine rEncode_row hb hv hl hi _ (by simp) ?_
    rw [List.range_succ, List.map_append] at h
    exact h
  · exact evShift (fun k => by simp only [wayfinderref15_Encode.l0]; rw [if_neg (by omega)]) (Ev.some_ _)
/-- What Encode answers, the book's and the reference's. -/
theorem enc_both (hl0 : LightB b) {v : List Int} (hvl : v.length ≤ 1100) : ∃ X e, Ev (fun k => book_Encode.f k b v) (X, e) ∧ Ev (fun k => wayfinderref15_Encode.f k b v) (X, e) ∧ (∀ x ∈ X, 0 ≤ x ∧ x ≤ 255) ∧ X.length ≤ 1024 := by
  by_cases h0 : bookE b = 0
  · obtain ⟨n, m, hb⟩ := bookE_ok h0
    by_cases hv : checkWide v = 0
    · by_cases hl : v.length = m * b.length
      · refine ⟨_, _, Encode_is hb h0 hv hl, rEncode_is hl0 hb h0 hv hl, fun x hx => ?_, by have := hb.most; have := Nat.le_mul_of_pos_left b.length hb.m1; simp; omega⟩
        obtain ⟨i, hi, rfl⟩ := List.mem_map.1 hx
        obtain ⟨q, hq, he, _⟩ := code_spec (v := v) hb (List.mem_range.1 hi)
        have := hb.n2
        omega
      · refine ⟨[], 2, ?_, ?_, by simp, by simp⟩
        · unfold book_Encode.f
          refine Ev.bindc (a := 0) (by show some (bookE b) = _; rw [h0]) (Ev.pos rfl ?_)
          refine Ev.bindc (a := 0) (by show some (checkWide v) = _; rw [hv]) (Ev.pos rfl ?_)
          exact Ev.bindc (dim_is hb h0) (Ev.neg (by omega) (Ev.some_ _))
        · unfold wayfinderref15_Encode.f
          refine Ev.bind (rCheck_is hl0) (Ev.pos h0 (Ev.bind (rCheckWide_is v (by omega)) ?_))
          rw [hv]
          refine evShift (fun k => by simp only [wayfinderref15_Encode.j0]; rw [if_pos trivial]) (Ev.bind (dim_both hl0).2 ?_)
          have hne : ((v.length : Int) != (dimN b : Int)) = true := by rw [dimN_ok hb h0]; simp; omega
          rw [hne]
          refine evShift (fun k => by simp only [wayfinderref15_Encode.j1]; rw [if_pos trivial]) ?_
          exact evShift (fun k => by simp only [wayfinderref15_Encode.j2]; rw [if_neg (by decide)]) (Ev.some_ _)
    · refine ⟨[], checkWide v, ?_, ?_, by simp, by simp⟩
      · unfold book_Encode.f
        refine Ev.bindc (a := 0) (by show some (bookE b) = _; rw [h0]) (Ev.pos rfl ?_)
        exact Ev.bindc (a := checkWide v) rfl (Ev.neg hv (Ev.some_ _))
      · unfold wayfinderref15_Encode.f
        refine Ev.bind (rCheck_is hl0) (Ev.pos h0 (Ev.bind (rCheckWide_is v (by omega)) ?_))
        refine evShift (fun k => by simp only [wayfinderref15_Encode.j0]; rw [if_neg hv]) ?_
        refine evShift (fun k => by simp only [wayfinderref15_Encode.j1]; rw [if_neg (by decide)]) ?_
        exact evShift (fun k => by simp only [wayfinderref15_Encode.j2]; rw [if_neg hv]) (Ev.some_ _)
  · refine ⟨[], bookE b, ?_, ?_, by simp, by simp⟩
    · unfold book_Encode.f
      exact Ev.bindc (a := bookE b) rfl (Ev.neg h0 (Ev.some_ _))
    · unfold wayfinderref15_Encode.f
      refine Ev.bind (rCheck_is hl0) (Ev.neg h0 ?_)
      refine evShift (fun k => by simp only [wayfinderref15_Encode.j0]; rw [if_neg h0]) ?_
      refine evShift (fun k => by simp only [wayfinderref15_Encode.j1]; rw [if_neg (by decide)]) ?_
      exact evShift (fun k => by simp only [wayfinderref15_Encode.j2]; rw [if_neg h0]) (Ev.some_ _)
end
end Go.Proofs.Yteickelddnhdiaa.Bk

namespace Go.Proofs.Yteickelddnhdiaa.Bk
open Go.RowKit Go.Proofs.YteickelddnhdiaaW.PrintWords Go.Proofs.YteickelddnhdiaaW.PrintLast Go.Proofs.Yteickelddnhdiaa.G
set_option linter.unusedVariables false
section
variable {b : List (List (List Int))} {n m : Nat}
theorem decTo_le (hl : LightB b) (c : List Int) : ∀ i, (decTo b c i).length ≤ 1000000 * i
  | 0 => by simp [decTo]
  | i + 1 => by
    rw [decTo_succ, List.length_append]
    have h1 := decTo_le hl c i
    have h2 : (wordOf b c i).length ≤ 1000000 := hl.m i (c.getD i 0).toNat
    omega
/-- What Decode answers, the book's and the reference's. -/
theorem dec_both (hl : LightB b) {c : List Int} (hcl : c.length ≤ 1100) (hc : ∀ x ∈ c, 0 ≤ x ∧ x ≤ 255) : ∃ X e, Ev (fun k => book_Decode.f k b c) (X, e) ∧ Ev (fun k => wayfinderref15_Decode.f k b c) (X, e) ∧ X.length ≤ 2000000000 := by
  by_cases h0 : bookE b = 0
  · obtain ⟨n, m, hb⟩ := bookE_ok h0
    have hn2 := hb.n2
    have hp1024 : b.length ≤ 1024 := by have := hb.most; have := Nat.le_mul_of_pos_left b.length hb.m1; omega
    by_cases hlen : c.length = b.length
    · have hby : ∀ i, i < b.length → 0 ≤ c.getD i 0 ∧ c.getD i 0 ≤ 255 := fun i hi => hc _ (getD_mem (by omega))
      have bstep : ∀ i, i < b.length → ¬ (n : Int) ≤ c.getD i 0 → ∀ k, book_Decode.l0 (k + 1) (decTo b c i) c (c.length : Int) (i : Int) b = book_Decode.l0 k (decTo b c (i + 1)) c (c.length : Int) ((i + 1 : Nat) : Int) b := fun i hi hbad k => by
        obtain ⟨c1, c2⟩ := hby i hi
        obtain ⟨q, hq⟩ : ∃ q : Nat, c.getD i 0 = (q : Int) := ⟨(c.getD i 0).toNat, by omega⟩
        have hp := hb.parts _ (getD_mem (z := []) hi)
        have hd := decTo_le hl c i
        have hwl : (wordOf b c i).length ≤ 1000000 := hl.m i (c.getD i 0).toNat
        have e2 : rd_L2 (b.getD i []) (q : Int) = wordOf b c i := by unfold wordOf; rw [hq]; rfl
        rw [book_Decode.l0, rd_nat, hq, wrap_nat (n := q) (by omega), rd3, e2, if_pos (by omega), if_pos (by omega), if_pos (by omega), if_pos (by omega), if_neg (by omega), if_pos (by omega), if_pos (by omega), if_pos (by omega), wrap_succ (by omega), ← decTo_succ]
      have rstep : ∀ i, i < b.length → ¬ (n : Int) ≤ c.getD i 0 → ∀ k, wayfinderref15_Decode.l0 (k + 1) c (decTo b c i) (i : Int) b = wayfinderref15_Decode.l0 k c (decTo b c (i + 1)) ((i + 1 : Nat) : Int) b := fun i hi hbad k => by
        obtain ⟨c1, c2⟩ := hby i hi
        obtain ⟨q, hq⟩ : ∃ q : Nat, c.getD i 0 = (q : Int) := ⟨(c.getD i 0).toNat, by omega⟩
        have hp := hb.parts _ (getD_mem (z := []) hi)
        have hd := decTo_le hl c i
        have hwl : (wordOf b c i).length ≤ 1000000 := hl.m i (c.getD i 0).toNat
        have e2 : rd_L2 (b.getD i []) (q : Int) = wordOf b c i := by unfold wordOf; rw [hq]; rfl
        rw [wayfinderref15_Decode.l0, rd_nat, hq, wrap_nat (n := q) (by omega), rd3, e2, if_pos (by omega), if_pos (by omega), if_pos (by omega), if_neg (by omega), if_pos (by omega), if_pos (by omega), if_pos (by omega), wrap_succ (by omega), ← decTo_succ]
      by_cases hex : ∃ i, i < b.length ∧ (n : Int) ≤ c.getD i 0
      · refine ⟨[], 2, ?_, ?_, by simp⟩
        · unfold book_Decode.f
          refine Ev.bindc (a := 0) (by show some (bookE b) = _; rw [h0]) (Ev.pos rfl (Ev.pos (by omega) ?_))
          refine loop_bad (l := fun i k => book_Decode.l0 k (decTo b c i) c (c.length : Int) (i : Int) b) (bad := fun i => (n : Int) ≤ c.getD i 0) (n := b.length) (fun i hi hb h => evShift (bstep i hi hb) h) hex (fun i hi hbad => ?_)
          obtain ⟨c1, c2⟩ := hby i hi
          have hp := hb.parts _ (getD_mem (z := []) hi)
          obtain ⟨q, hq⟩ : ∃ q : Nat, c.getD i 0 = (q : Int) := ⟨(c.getD i 0).toNat, by omega⟩
          exact evShift (fun k => by rw [book_Decode.l0, rd_nat, hq, wrap_nat (n := q) (by omega), rd3, if_pos (by omega), if_pos (by omega), if_pos (by omega), if_pos (by omega), if_pos (by omega)]) (Ev.some_ _)
        · unfold wayfinderref15_Decode.f
          refine Ev.bind (rCheck_is hl) (Ev.pos h0 (Ev.pos (by omega) ?_))
          refine loop_bad (l := fun i k => wayfinderref15_Decode.l0 k c (decTo b c i) (i : Int) b) (bad := fun i => (n : Int) ≤ c.getD i 0) (n := b.length) (fun i hi hb h => evShift (rstep i hi hb) h) hex (fun i hi hbad => ?_)
          obtain ⟨c1, c2⟩ := hby i hi
          have hp := hb.parts _ (getD_mem (z := []) hi)
          obtain ⟨q, hq⟩ : ∃ q : Nat, c.getD i 0 = (q : Int) := ⟨(c.getD i 0).toNat, by omega⟩
          exact evShift (fun k => by rw [wayfinderref15_Decode.l0, rd_nat, hq, wrap_nat (n := q) (by omega), rd3, if_pos (by omega), if_pos (by omega), if_pos (by omega), if_pos (by omega)]) (Ev.some_ _)
      · refine ⟨decTo b c b.length, 0, ?_, ?_, by have := decTo_le hl c b.length; omega⟩
        · unfold book_Decode.f
          refine Ev.bindc (a := 0) (by show some (bookE b) = _; rw [h0]) (Ev.pos rfl (Ev.pos (by omega) ?_))
          refine loop_ok (l := fun i k => book_Decode.l0 k (decTo b c i) c (c.length : Int) (i : Int) b) (bad := fun i => (n : Int) ≤ c.getD i 0) (n := b.length) (fun i hi hb h => evShift (bstep i hi hb) h) (fun i hi h => hex ⟨i, hi, h⟩) ?_
          exact evShift (fun k => by rw [book_Decode.l0, if_neg (by omega)]) (Ev.some_ _)
        · unfold wayfinderref15_Decode.f
          refine Ev.bind (rCheck_is hl) (Ev.pos h0 (Ev.pos (by omega) ?_))
          refine loop_ok (l := fun i k => wayfinderref15_Decode.l0 k c (decTo b c i) (i : Int) b) (bad := fun i => (n : Int) ≤ c.getD i 0) (n := b.length) (fun i hi hb h => evShift (rstep i hi hb) h) (fun i hi h => hex ⟨i, hi, h⟩) ?_
          exact evShift (fun k => by rw [wayfinderref15_Decode.l0, if_neg (by omega)]) (Ev.some_ _)
    · refine ⟨[], 2, ?_, ?_, by simp⟩
      · unfold book_Decode.f
        exact Ev.bindc (a := 0) (by show some (bookE b) = _; rw [h0]) (Ev.pos rfl (Ev.neg (by omega) (Ev.some_ _)))
      · unfold wayfinderref15_Decode.f
        exact Ev.bind (rCheck_is hl) (Ev.pos h0 (Ev.neg (by omega) (Ev.some_ _)))
  · refine ⟨[], bookE b, ?_, ?_, by simp⟩
    · unfold book_Decode.f
      exact Ev.bindc (a := bookE b) rfl (Ev.neg h0 (Ev.some_ _))
    · unfold wayfinderref15_Decode.f
      exact Ev.bind (rCheck_is hl) (Ev.neg h0 (Ev.some_ _))
/-- What Word answers, the book's and the reference's. -/
theorem word_both (hl : LightB b) (p q : Int) : ∃ X e, book_Word.f b p q = some (X, e) ∧ Ev (fun k => wayfinderref15_Word.f k b p q) (X, e) := by
  by_cases h0 : bookE b = 0
  · obtain ⟨n, m, hb⟩ := bookE_ok h0
    have hp1 := hb.p1
    have hn0 := hb.parts _ (getD_mem (z := []) (show 0 < b.length by omega))
    have e0 : rd_L3 b 0 = b.getD 0 [] := rfl
    have hm1024 : m ≤ 1024 := by have := hb.most; have := Nat.le_mul_of_pos_right m hb.p1; omega
    have bk : ∀ X e, (if p < 0 then (some (([] : List Int), (2 : Int))) else (if p ≥ (b.length : Int) then (some (([] : List Int), 2)) else (if q < 0 then (some (([] : List Int), 2)) else (if 0 ≤ p then (if p < (b.length : Int) then (if q ≥ ((rd_L3 b p).length : Int) then (some (([] : List Int), 2)) else (if 0 ≤ q then (if q < ((rd_L3 b p).length : Int) then ((slices_Clone_int32_int32.f (rd_L2 (rd_L3 b p) q)).bind fun t286 => (some (t286, 0))) else (none)) else (none))) else (none)) else (none))))) = some (X, e) → book_Word.f b p q = some (X, e) := fun X e h => by
      unfold book_Word.f
      rw [show book_Check.f b = some 0 by show some (bookE b) = _; rw [h0], Option.bind_some, if_pos rfl]
      exact h
    by_cases c1 : p < 0
    · refine ⟨[], 2, bk _ _ (by rw [if_pos c1]), ?_⟩
      unfold wayfinderref15_Word.f
      exact Ev.bind (rCheck_is hl) (Ev.pos h0 (Ev.pos c1 (Ev.some_ _)))
    by_cases c2 : p ≥ (b.length : Int)
    · refine ⟨[], 2, bk _ _ (by rw [if_neg c1, if_pos c2]), ?_⟩
      unfold wayfinderref15_Word.f
      exact Ev.bind (rCheck_is hl) (Ev.pos h0 (Ev.neg c1 (Ev.pos c2 (Ev.some_ _))))
    by_cases c3 : q < 0
    · refine ⟨[], 2, bk _ _ (by rw [if_neg c1, if_neg c2, if_pos c3]), ?_⟩
      unfold wayfinderref15_Word.f
      exact Ev.bind (rCheck_is hl) (Ev.pos h0 (Ev.neg c1 (Ev.neg c2 (Ev.pos c3 (Ev.some_ _)))))
    obtain ⟨i, rfl⟩ : ∃ i : Nat, p = (i : Int) := ⟨p.toNat, by omega⟩
    obtain ⟨j, rfl⟩ : ∃ j : Nat, q = (j : Int) := ⟨q.toNat, by omega⟩
    have hi : i < b.length := by omega
    have hpi := hb.parts _ (getD_mem (z := []) hi)
    by_cases c4 : n ≤ j
    · refine ⟨[], 2, bk _ _ (by rw [if_neg c1, if_neg c2, if_neg c3, if_pos (by omega), if_pos (by omega), rd3, if_pos (by omega)]), ?_⟩
      unfold wayfinderref15_Word.f
      exact Ev.bind (rCheck_is hl) (Ev.pos h0 (Ev.neg c1 (Ev.neg c2 (Ev.neg c3 (Ev.pos (by omega) (Ev.pos (by rw [e0]; omega) (Ev.some_ _)))))))
    · have hw := (hb.word hi (show j < n by omega)).1
      refine ⟨(b.getD i []).getD j [], 0, bk _ _ ?_, ?_⟩
      · rw [if_neg c1, if_neg c2, if_neg c3, if_pos (by omega), if_pos (by omega), rd3, if_neg (by omega), if_pos (by omega), if_pos (by omega), rd2]
        unfold slices_Clone_int32_int32.f
        rw [if_pos (by omega), Option.bind_some]
      · unfold wayfinderref15_Word.f
        refine Ev.bind (rCheck_is hl) (Ev.pos h0 (Ev.neg c1 (Ev.neg c2 (Ev.neg c3 (Ev.pos (by omega) (Ev.neg (by rw [e0]; omega) ?_))))))
        refine Ev.bindc rfl (Ev.pos (by omega) (Ev.pos (by omega) (Ev.pos (by omega) (Ev.pos (by rw [rd3]; omega) (Ev.pos ?_ ?_)))))
        · rw [rd3, rd2, hw]; simp only [List.length_nil]; omega
        · rw [rd3, rd2, List.nil_append]; exact Ev.some_ _
  · refine ⟨[], bookE b, ?_, ?_⟩
    · unfold book_Word.f
      rw [show book_Check.f b = some (bookE b) from rfl, Option.bind_some, if_neg h0]
    · unfold wayfinderref15_Word.f
      exact Ev.bind (rCheck_is hl) (Ev.neg h0 (Ev.some_ _))
/-- What Loss answers, the book's and the reference's. -/
theorem loss_both (hl : LightB b) {v : List Int} (hvl : v.length ≤ 1100) : ∃ d e, Ev (fun k => book_Loss.f k b v) (d, e) ∧ Ev (fun k => wayfinderref15_Loss.f k b v) (d, e) := by
  obtain ⟨X, e, h1, h2, hX, hXl⟩ := enc_both hl hvl
  by_cases he : e = 0
  · obtain ⟨Y, e2, g1, g2, hYl⟩ := dec_both hl (c := X) (by omega) hX
    refine ⟨distV v Y, pairE v Y, ?_, ?_⟩
    · unfold book_Loss.f
      exact Ev.bind h1 (Ev.pos he (Ev.bind g1 (Ev.bindc (a := (distV v Y, pairE v Y)) rfl (Ev.some_ _))))
    · unfold wayfinderref15_Loss.f
      exact Ev.bind h2 (Ev.pos he (Ev.bind g2 (Ev.bind (rDist_is v Y (by omega) (by show Y.length ≤ _; omega)) (Ev.some_ _))))
  · refine ⟨0, e, ?_, ?_⟩
    · unfold book_Loss.f
      exact Ev.bind h1 (Ev.neg he (Ev.some_ _))
    · unfold wayfinderref15_Loss.f
      exact Ev.bind h2 (Ev.neg he (Ev.some_ _))
end
end Go.Proofs.Yteickelddnhdiaa.Bk
