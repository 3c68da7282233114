/- The plain law of a double times a power of two, made whole. -/
import Derived.Test.YtkogapmggicanaaFix
namespace Go.Proofs.Ytkogapmggicanaa.G
open Go.RowKit Go.Shelf Go.Proofs.YtkogapmggicanaaW.PrintWords Ieee
set_option linter.unusedVariables false
set_option linter.unusedSimpArgs false

theorem fmt : FloatKind.f64.format = Ieee.double := rfl
theorem d_binade : Ieee.double.binade = 4503599627370496 := by decide
theorem d_least : Ieee.double.leastPlace = -1074 := by decide
theorem d_inf : Ieee.double.infRung = 9218868437227405312 := by decide
theorem d_sign : Ieee.double.signWeight = 9223372036854775808 := by decide
theorem d_frac : Ieee.double.fractionBits = 52 := rfl

/-- Half to even. -/
def rne (M k : Nat) : Nat := M / 2 ^ k + (if 2 ^ k < 2 * (M % 2 ^ k) ∨ (2 ^ k = 2 * (M % 2 ^ k) ∧ M / 2 ^ k % 2 = 1) then 1 else 0)
theorem cut_rne (s : Bool) (M k : Nat) : Toward.even.cut s M k = rne M k := by
  have key : ∀ g : Nat, M / g + (decide (g < 2 * (M % g)) || (g == 2 * (M % g) && M / g % 2 == 1)).toNat = M / g + (if g < 2 * (M % g) ∨ (g = 2 * (M % g) ∧ M / g % 2 = 1) then 1 else 0) := fun g => by
    congr 1
    by_cases h1 : g < 2 * (M % g)
    · simp [h1]
    · by_cases h2 : g = 2 * (M % g) ∧ M / g % 2 = 1
      · rw [if_pos (.inr h2)]
        have : (g == 2 * (M % g)) = true := by simpa using h2.1
        simp [this, h2.2]
      · rw [if_neg (by rintro (h | h); exact h1 h; exact h2 h)]
        have : (g == 2 * (M % g) && M / g % 2 == 1) = false := by
          simp only [Bool.and_eq_false_iff, beq_eq_false_iff_ne]
          by_cases h3 : g = 2 * (M % g)
          · exact .inr fun h4 => h2 ⟨h3, h4⟩
          · exact .inl h3
        rw [this]
        simp [h1]
  have hc : Toward.even.cut s M k = M / 2 ^ (min k (M.log2 + 2)) + (if 2 ^ (min k (M.log2 + 2)) < 2 * (M % 2 ^ (min k (M.log2 + 2))) ∨ (2 ^ (min k (M.log2 + 2)) = 2 * (M % 2 ^ (min k (M.log2 + 2))) ∧ M / 2 ^ (min k (M.log2 + 2)) % 2 = 1) then 1 else 0) := by
    rw [← key]
    simp only [Toward.cut, Nat.shiftLeft_eq, Nat.one_mul]
  rw [hc]
  by_cases h : k ≤ M.log2 + 2
  · rw [Nat.min_eq_left h]
    rfl
  · have hlt : M < 2 ^ (M.log2 + 1) := Nat.lt_log2_self
    have hz : ∀ j, M.log2 + 2 ≤ j → M / 2 ^ j + (if 2 ^ j < 2 * (M % 2 ^ j) ∨ (2 ^ j = 2 * (M % 2 ^ j) ∧ M / 2 ^ j % 2 = 1) then 1 else 0) = 0 := fun j hj => by
      have h2 : 2 ^ (M.log2 + 2) ≤ 2 ^ j := Nat.pow_le_pow_right (by decide) hj
      have h3 : 2 ^ (M.log2 + 2) = 2 * 2 ^ (M.log2 + 1) := by rw [Nat.pow_succ, Nat.mul_comm]
      have h4 : M < 2 ^ j := by omega
      rw [Nat.div_eq_of_lt h4, Nat.mod_eq_of_lt h4, if_neg (by omega)]
    rw [Nat.min_eq_right (by omega), hz _ (Nat.le_refl _)]
    unfold rne
    rw [hz k (by omega)]
theorem rne_zero (M : Nat) : rne M 0 = M := by simp [rne]; omega
theorem rne_small {M k : Nat} (h : M < 2 ^ 53) (hk : 54 ≤ k) : rne M k = 0 := by
  have h2 : 2 ^ 54 ≤ 2 ^ k := Nat.pow_le_pow_right (by decide) hk
  unfold rne
  rw [Nat.div_eq_of_lt (by omega), Nat.mod_eq_of_lt (by omega), if_neg (by omega)]
theorem rne_shift (M k : Nat) : rne (M * 2 ^ k) k = M := by
  unfold rne
  have hp : 0 < 2 ^ k := Nat.pow_pos (by decide)
  rw [Nat.mul_div_cancel _ hp, Nat.mul_mod_left, if_neg (by omega)]
  omega
theorem rne_le {M k : Nat} (h : M < 2 ^ 53) (hk : 1 ≤ k) : rne M k ≤ 2 ^ 52 := by
  unfold rne
  have h2 : 2 ^ 1 ≤ 2 ^ k := Nat.pow_le_pow_right (by decide) hk
  have h3 : M / 2 ^ k ≤ M / 2 ^ 1 := Nat.div_le_div_left h2 (by decide)
  by_cases h4 : M / 2 ^ k = M / 2 ^ 1
  · by_cases hk1 : k = 1
    · subst hk1
      split <;> omega
    · have h5 : 2 ^ 2 ≤ 2 ^ k := Nat.pow_le_pow_right (by decide) (by omega)
      have h6 : M / 2 ^ k ≤ M / 2 ^ 2 := Nat.div_le_div_left h5 (by decide)
      split <;> omega
  · split <;> omega

/-! ### words -/
theorem read_word (s : Bool) (r : Nat) (hr : r < 9218868437227405312) :
    Ieee.double.read (Ieee.double.word s r) = if r < 4503599627370496 then .number s r (-1074) else .number s (4503599627370496 + r % 4503599627370496) (-1074 + ((r / 4503599627370496 - 1 : Nat) : Int)) := by
  have h1 : (Ieee.double.word s r) / 9223372036854775808 % 2 = if s then 1 else 0 := by
    unfold Format.word
    rw [d_sign]
    cases s <;> simp <;> omega
  have h2 : (Ieee.double.word s r) % 9223372036854775808 = r := by
    unfold Format.word
    rw [d_sign]
    cases s <;> simp <;> omega
  unfold Format.read
  rw [d_sign, d_binade, d_least, d_inf]
  simp only [h1, h2]
  have h3 : ((if s = true then 1 else 0) == 1) = s := by cases s <;> rfl
  rw [h3, if_pos hr]
theorem log2_of {M : Nat} (h1 : 2 ^ 52 ≤ M) (h2 : M < 2 ^ 53) : M.log2 = 52 := by
  have h0 : M ≠ 0 := by omega
  have a := (Nat.le_log2 h0).2 h1
  have b := (Nat.log2_lt h0).2 h2
  omega
theorem log2_mul_pow {M k : Nat} (h : M ≠ 0) : (M * 2 ^ k).log2 = M.log2 + k := by
  have hp : 0 < 2 ^ k := Nat.pow_pos (by decide)
  have h0 : M * 2 ^ k ≠ 0 := Nat.mul_ne_zero h (by omega)
  have a1 := Nat.log2_self_le h
  have a2 : M < 2 ^ (M.log2 + 1) := Nat.lt_log2_self
  have b1 : M.log2 + k ≤ (M * 2 ^ k).log2 := (Nat.le_log2 h0).2 (by rw [Nat.pow_add]; exact Nat.mul_le_mul_right _ a1)
  have b2 : (M * 2 ^ k).log2 < M.log2 + 1 + k := (Nat.log2_lt h0).2 (by rw [Nat.pow_add]; exact Nat.mul_lt_mul_of_pos_right a2 hp)
  omega
/-- A significand, shifted: it is written as it is. -/
theorem nearest_normal (s : Bool) (M : Nat) (p : Int) (h1 : 2 ^ 52 ≤ M) (h2 : M < 2 ^ 53) (hp : -1074 ≤ p) :
    Ieee.double.nearest s (M * 2 ^ 52) (p - 52) = Ieee.double.word s (min ((p + 1074).toNat * 4503599627370496 + M) 9218868437227405312) := by
  have h0 : M ≠ 0 := by omega
  unfold Format.nearest
  rw [if_neg (Nat.mul_ne_zero h0 (by decide)), d_least, d_binade, d_inf, d_frac, log2_mul_pow h0, log2_of h1 h2]
  simp only [cut_rne]
  have e1 : max (p - 52 + ((52 + 52 : Nat) : Int) - ((52 : Nat) : Int)) (-1074) = p := by omega
  simp only [e1]
  have e2 : (p - 52 - p).toNat = 0 := by omega
  have e3 : (p - (p - 52)).toNat = 52 := by omega
  rw [e2, e3, Nat.shiftLeft_zero, rne_shift, show p - -1074 = p + 1074 by omega]
/-- A whole number below 2^53. -/
theorem nearest_whole (s : Bool) (N : Nat) (h0 : N ≠ 0) (h2 : N < 2 ^ 53) :
    Ieee.double.nearest s N 0 = Ieee.double.word s ((1022 + N.log2) * 4503599627370496 + N * 2 ^ (52 - N.log2)) := by
  have hl : N.log2 ≤ 52 := by
    have := (Nat.log2_lt h0).2 h2
    omega
  have a2 : N < 2 ^ (N.log2 + 1) := Nat.lt_log2_self
  have hb : N * 2 ^ (52 - N.log2) < 2 ^ 53 := by
    have := Nat.mul_lt_mul_of_pos_right a2 (show 0 < 2 ^ (52 - N.log2) from Nat.pow_pos (by decide))
    rw [← Nat.pow_add, show N.log2 + 1 + (52 - N.log2) = 53 by omega] at this
    exact this
  unfold Format.nearest
  rw [if_neg h0, d_least, d_binade, d_inf, d_frac]
  simp only [cut_rne]
  have e1 : max (0 + (N.log2 : Int) - ((52 : Nat) : Int)) (-1074) = (N.log2 : Int) - 52 := by omega
  simp only [e1]
  have e2 : (0 - ((N.log2 : Int) - 52)).toNat = 52 - N.log2 := by omega
  have e3 : ((N.log2 : Int) - 52 - 0).toNat = 0 := by omega
  have e4 : ((N.log2 : Int) - 52 - -1074).toNat = 1022 + N.log2 := by omega
  rw [e2, e3, e4, rne_zero, Nat.shiftLeft_eq]
  congr 1
  omega
theorem read_whole (s : Bool) (N : Nat) (h0 : N ≠ 0) (h2 : N < 2 ^ 53) :
    Ieee.double.read (Ieee.double.nearest s N 0) = .number s (N * 2 ^ (52 - N.log2)) ((N.log2 : Int) - 52) := by
  have hl : N.log2 ≤ 52 := by
    have := (Nat.log2_lt h0).2 h2
    omega
  have a1 := Nat.log2_self_le h0
  have a2 : N < 2 ^ (N.log2 + 1) := Nat.lt_log2_self
  have hb : N * 2 ^ (52 - N.log2) < 2 ^ 53 := by
    have := Nat.mul_lt_mul_of_pos_right a2 (show 0 < 2 ^ (52 - N.log2) from Nat.pow_pos (by decide))
    rw [← Nat.pow_add, show N.log2 + 1 + (52 - N.log2) = 53 by omega] at this
    exact this
  have hc : 2 ^ 52 ≤ N * 2 ^ (52 - N.log2) := by
    have := Nat.mul_le_mul_right (2 ^ (52 - N.log2)) a1
    rw [← Nat.pow_add, show N.log2 + (52 - N.log2) = 52 by omega] at this
    exact this
  rw [nearest_whole s N h0 h2]
  generalize N * 2 ^ (52 - N.log2) = M at *
  have h53 : (2 : Nat) ^ 53 = 9007199254740992 := by decide
  have h52 : (2 : Nat) ^ 52 = 4503599627370496 := by decide
  rw [h53] at hb
  rw [h52] at hc
  rw [read_word s _ (by omega), if_neg (by omega)]
  have e1 : 4503599627370496 + ((1022 + N.log2) * 4503599627370496 + M) % 4503599627370496 = M := by omega
  have e2 : ((1022 + N.log2) * 4503599627370496 + M) / 4503599627370496 - 1 = 1022 + N.log2 := by omega
  rw [e1, e2]
  congr 1
  omega

end Go.Proofs.Ytkogapmggicanaa.G
