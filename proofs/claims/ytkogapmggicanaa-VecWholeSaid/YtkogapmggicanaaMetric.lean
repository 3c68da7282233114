/- The plain law of VecMetric: roots of sums of squares keep the triangle's inequality. -/
import Derived.Test.YtkogapmggicanaaVecC
import Derived.Test.YtkogapmggicanaaRoot2
namespace Go.Proofs.Ytkogapmggicanaa.G
set_option linter.unusedVariables false

theorem sq_comm (x y : Int) : sq x y = sq y x := by unfold sq; grind
theorem distTo_comm (a b : List Int) : ∀ k, distTo a b k = distTo b a k
  | 0 => rfl
  | k + 1 => by simp only [distTo]; rw [distTo_comm a b k, sq_comm]
theorem distTo_nonneg (a b : List Int) : ∀ k, 0 ≤ distTo a b k
  | 0 => Int.le_refl _
  | k + 1 => by
    have := distTo_nonneg a b k
    have h := mul_self_nonneg' (a.getD k 0 - b.getD k 0)
    simp only [distTo, sq]
    omega
theorem distTo_zero (a b : List Int) : ∀ k, distTo a b k = 0 ↔ ∀ j, j < k → a.getD j 0 = b.getD j 0
  | 0 => by simp [distTo]
  | k + 1 => by
    have ih := distTo_zero a b k
    have h0 := distTo_nonneg a b k
    have h1 := mul_self_nonneg' (a.getD k 0 - b.getD k 0)
    simp only [distTo, sq]
    constructor
    · intro h j hj
      have e0 : distTo a b k = 0 := by omega
      have e1 : (a.getD k 0 - b.getD k 0) * (a.getD k 0 - b.getD k 0) = 0 := by omega
      rcases Nat.lt_succ_iff_lt_or_eq.1 hj with hj | rfl
      · exact ih.1 e0 j hj
      · rcases Int.mul_eq_zero.1 e1 with h | h <;> omega
    · intro h
      have e0 := ih.2 (fun j hj => h j (by omega))
      have e1 := h k (by omega)
      rw [e0, e1]
      simp
/-- The sum of products. -/
def dotTo (a b c : List Int) : Nat → Int
  | 0 => 0
  | k + 1 => dotTo a b c k + (a.getD k 0 - b.getD k 0) * (b.getD k 0 - c.getD k 0)
theorem dist_split (a b c : List Int) : ∀ k, distTo a c k = distTo a b k + 2 * dotTo a b c k + distTo b c k
  | 0 => rfl
  | k + 1 => by
    have ih := dist_split a b c k
    simp only [distTo, dotTo, sq]
    rw [ih]
    grind
theorem dot_sq (a b c : List Int) (X Y : Int) : ∀ k, 0 ≤ Y * Y * distTo a b k - 2 * X * Y * dotTo a b c k + X * X * distTo b c k
  | 0 => by simp [distTo, dotTo]
  | k + 1 => by
    have ih := dot_sq a b c X Y k
    have h := mul_self_nonneg' (Y * (a.getD k 0 - b.getD k 0) - X * (b.getD k 0 - c.getD k 0))
    have e : Y * Y * distTo a b (k + 1) - 2 * X * Y * dotTo a b c (k + 1) + X * X * distTo b c (k + 1)
        = (Y * Y * distTo a b k - 2 * X * Y * dotTo a b c k + X * X * distTo b c k) + (Y * (a.getD k 0 - b.getD k 0) - X * (b.getD k 0 - c.getD k 0)) * (Y * (a.getD k 0 - b.getD k 0) - X * (b.getD k 0 - c.getD k 0)) := by
      simp only [distTo, dotTo, sq]
      grind
    rw [e]
    omega
theorem dot_zero (a b c : List Int) : ∀ k, (distTo a b k = 0 ∨ distTo b c k = 0) → dotTo a b c k = 0
  | 0, _ => rfl
  | k + 1, h => by
    have h1 := fun e => (distTo_zero a b (k + 1)).1 e
    have h2 := fun e => (distTo_zero b c (k + 1)).1 e
    have ih := dot_zero a b c k
    simp only [dotTo]
    rcases h with h | h
    · have := h1 h
      rw [ih (.inl ((distTo_zero a b k).2 fun j hj => this j (by omega))), this k (by omega)]
      simp
    · have := h2 h
      rw [ih (.inr ((distTo_zero b c k).2 fun j hj => this j (by omega))), this k (by omega)]
      simp
theorem dot_le (a b c : List Int) (k : Nat) (X Y : Int) (hX : 0 ≤ X) (hY : 0 ≤ Y) (hx : distTo a b k ≤ X * X) (hy : distTo b c k ≤ Y * Y) : dotTo a b c k ≤ X * Y := by
  have n1 := distTo_nonneg a b k
  have n2 := distTo_nonneg b c k
  rcases Int.lt_or_eq_of_le hX with hX | hX
  · rcases Int.lt_or_eq_of_le hY with hY | hY
    · have h := dot_sq a b c X Y k
      have p : 0 < X * Y := Int.mul_pos hX hY
      have q1 : Y * Y * distTo a b k ≤ Y * Y * (X * X) := Int.mul_le_mul_of_nonneg_left hx (mul_self_nonneg' Y)
      have q2 : X * X * distTo b c k ≤ X * X * (Y * Y) := Int.mul_le_mul_of_nonneg_left hy (mul_self_nonneg' X)
      have r : 2 * (X * Y) * dotTo a b c k ≤ 2 * (X * Y) * (X * Y) := by grind
      exact Int.le_of_mul_le_mul_left r (by omega)
    · subst hY
      rw [dot_zero a b c k (.inr (by omega))]
      omega
  · subst hX
    rw [dot_zero a b c k (.inl (by omega))]
    omega
theorem triangle (a b c : List Int) (k nx ny nz X Y F : Nat) (hx : distTo a b k = nx) (hy : distTo b c k = ny) (hz : distTo a c k = nz) (cX : IsCeil nx X) (cY : IsCeil ny Y) (cF : IsRoot nz F) : F ≤ X + Y := by
  have h1 : distTo a b k ≤ (X : Int) * X := by rw [hx, ← Int.natCast_mul]; exact Int.ofNat_le.2 cX.1
  have h2 : distTo b c k ≤ (Y : Int) * Y := by rw [hy, ← Int.natCast_mul]; exact Int.ofNat_le.2 cY.1
  have h3 := dot_le a b c k X Y (by omega) (by omega) h1 h2
  have h4 := dist_split a b c k
  rw [hz] at h4
  have h5 : (nz : Int) ≤ ((X : Int) + Y) * ((X : Int) + Y) := by grind
  have h6 : nz ≤ (X + Y) * (X + Y) := by
    have : (((X + Y) * (X + Y) : Nat) : Int) = ((X : Int) + Y) * ((X : Int) + Y) := by simp
    omega
  have h7 := cF.1
  rcases Nat.lt_or_ge (X + Y) F with hlt | hge
  · have := Nat.mul_le_mul (Nat.succ_le_of_lt hlt) (Nat.succ_le_of_lt hlt)
    have e : (X + Y + 1) * (X + Y + 1) = (X + Y) * (X + Y) + 2 * (X + Y) + 1 := by grind
    simp only [Nat.succ_eq_add_one] at this
    omega
  · exact hge

end Go.Proofs.Ytkogapmggicanaa.G
